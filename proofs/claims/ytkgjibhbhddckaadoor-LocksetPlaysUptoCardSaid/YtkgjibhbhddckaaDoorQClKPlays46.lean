/- what the rows' reading of LocksetPlays' script says. -/
import Derived.Test.YtkgjibhbhddckaaDoorQClKPlays45
namespace Go.Vc
open Go Go.Proofs Go.ChangeShapes
set_option maxRecDepth 10000
/-- a step of the script, and where its list lies -/
structure AskG where
  do_ : Int
  on : Int
  n : Int
  ev : Ev
  l : List Ev
  lad : Option Addr
  lcap : Nat
abbrev askC (a : AskG) : List Value := [I a.do_, I a.on, I a.n, I a.ev.k, I a.ev.t, I a.ev.o, .slice a.lad a.l.length a.lcap]
def AskOk (w : World) (a : AskG) : Prop := ReadS w a.lad (evsC a.l) ∧ a.l.length ≤ 1048576 ∧ a.l.length ≤ a.lcap ∧ (-9223372036854775808 ≤ a.on ∧ a.on ≤ 9223372036854775807)
section
variable {H : Type} {enc : TypeId × Value → H} {w : World} {base : Nat} {sp : Nat → Bool} {held : Bool} {fuel : Nat} {d : DataW H} {ps : List MemPlace}
theorem trod_isSlice {t e : TypeId} {v : Value} {x : DataW H × List MemPlace} (ht : Tryd.prog.underlying t = some (.slice e)) (h : DataW.trod enc Tryd.prog w base sp held fuel t [v] = some x) : ∃ a l c, v = .slice a l c := by
  cases fuel with
  | zero => simp [DataW.trod] at h
  | succ fuel =>
    unfold DataW.trod at h
    rw [ht] at h
    cases v with
    | slice a l c => exact ⟨a, l, c, rfl⟩
    | _ => simp at h
theorem rd_asks {a : Option Addr} {len cap : Nat} (h : DataW.trod enc Tryd.prog w base sp held fuel 48 (Value.slice a len cap).cells.toList = some (d, ps)) :
    ∃ xs : List AskG, (ReadS w a (xs.flatMap askC) ∧ xs.length = len ∧ ∀ x ∈ xs, ∀ B, Go.Proofs.YtkgjibhbhddckaaDoor.Rows.uptoBulk d ≤ B → B ≤ 1048576 → AskOk w x) ∧ xs.length ≤ Go.Proofs.YtkgjibhbhddckaaDoor.Rows.uptoBulk d := by
  obtain ⟨n, Cs, D, h1, h2, h3, h4, h5, hcap, _⟩ := trod_recs (m := 7) Tryd.underlying48 (by kernel_rfl) h
  have hall : Go.Proofs.YtkgjibhbhddckaaDoor.Rows.uptoBulkAll D ≤ Go.Proofs.YtkgjibhbhddckaaDoor.Rows.uptoBulk d := by
    rcases h5 with ⟨e1, e2⟩ | ⟨spp, e1⟩
    · rw [e2]; simp [Go.Proofs.YtkgjibhbhddckaaDoor.Rows.uptoBulkAll]
    · dsimp only at e1
      rw [e1]
      simp only [Go.Proofs.YtkgjibhbhddckaaDoor.Rows.uptoBulk]; omega
  have key : ∀ cs ∈ Cs, ∃ x : AskG, cs = askC x ∧ ∀ B, Go.Proofs.YtkgjibhbhddckaaDoor.Rows.uptoBulk d ≤ B → B ≤ 1048576 → AskOk w x := by
    intro cs hcs
    obtain ⟨i, hi⟩ := List.getElem?_of_mem hcs
    obtain ⟨g1, d', p', g3, g2⟩ := h4 i cs hi
    obtain ⟨xs, m, _, gx, _, g5, g6⟩ := DataW.trod_struct Tryd.underlying57 g2
    have hd' := bulkS_mem (List.mem_of_getElem? g3)
    have gd := congrArg Prod.fst gx
    dsimp only at gd
    match cs, g1 with
    | [c0, c1, c2, c3, c4, c5, c6], _ =>
      have f0 := g6 0 _ rfl
      have f1 := g6 1 _ rfl
      have f2 := g6 2 _ rfl
      have f3 := g6 3 _ rfl
      have f4 := g6 4 _ rfl
      have l6 : xs.length = 5 := g5
      rw [List.getElem?_eq_getElem (by omega)] at f0 f1 f2 f3 f4
      obtain ⟨z0, rfl, w0⟩ := trod_int (k := .i64) (by kernel_rfl) f0
      obtain ⟨z1, rfl, w1⟩ := trod_int (k := .i64) (by kernel_rfl) f1
      obtain ⟨z2, rfl, w2⟩ := trod_int (k := .i64) (by kernel_rfl) f2
      have f3' : DataW.trod enc Tryd.prog w base sp held m 35 [c3, c4, c5] = some xs[3] := f3
      obtain ⟨ys, m', _, gy, _, y5, y6⟩ := DataW.trod_struct Tryd.underlying35 f3'
      have e0 := y6 0 _ rfl
      have e1 := y6 1 _ rfl
      have e2 := y6 2 _ rfl
      have ly : ys.length = 3 := y5
      rw [List.getElem?_eq_getElem (by omega)] at e0 e1 e2
      obtain ⟨u0, rfl, _⟩ := trod_int (k := .i64) (by kernel_rfl) e0
      obtain ⟨u1, rfl, _⟩ := trod_int (k := .i64) (by kernel_rfl) e1
      obtain ⟨u2, rfl, _⟩ := trod_int (k := .i64) (by kernel_rfl) e2
      have f4' : DataW.trod enc Tryd.prog w base sp held m 55 [c6] = some xs[4] := f4
      obtain ⟨a6, l6', k6, rfl⟩ := trod_isSlice Tryd.underlying55 f4'
      obtain ⟨es, ⟨r1, r2, r3⟩, r4⟩ := rd_evs (d := xs[4].1) (ps := xs[4].2) f4'
      subst r2
      have m4 : Go.Proofs.YtkgjibhbhddckaaDoor.Rows.uptoBulk xs[4].1 ≤ Go.Proofs.YtkgjibhbhddckaaDoor.Rows.uptoBulkAll (xs.map (·.1)) := bulkS_mem (List.mem_map.2 ⟨_, List.getElem_mem _, rfl⟩)
      rw [gd] at hd'
      simp only [Go.Proofs.YtkgjibhbhddckaaDoor.Rows.uptoBulk] at hd'
      exact ⟨⟨z0, z1, z2, ⟨u0, u1, u2⟩, es, a6, k6⟩, rfl, fun B hB hB2 => ⟨r1, by dsimp only; omega, r3, wfI w1⟩⟩
  have flat : ∀ Ds : List (List Value), (∀ cs ∈ Ds, ∃ x : AskG, cs = askC x ∧ ∀ B, Go.Proofs.YtkgjibhbhddckaaDoor.Rows.uptoBulk d ≤ B → B ≤ 1048576 → AskOk w x) → ∃ l : List AskG, Ds = l.map askC ∧ ∀ x ∈ l, ∀ B, Go.Proofs.YtkgjibhbhddckaaDoor.Rows.uptoBulk d ≤ B → B ≤ 1048576 → AskOk w x := by
    intro Ds
    induction Ds with
    | nil => intro _; exact ⟨[], rfl, by simp⟩
    | cons c r ih =>
      intro hh
      obtain ⟨x, hx, hp⟩ := hh c (by simp)
      obtain ⟨l, hl, hq⟩ := ih (fun cs hcs => hh cs (by simp [hcs]))
      refine ⟨x :: l, by rw [hx, hl]; rfl, fun y hy => ?_⟩
      rcases List.mem_cons.1 hy with rfl | hy
      · exact hp
      · exact hq y hy
  obtain ⟨xs, hxs, hp⟩ := flat Cs key
  have hl : xs.length = len := by rw [← h1, hxs]; simp
  refine ⟨xs, ⟨?_, hl, hp⟩, ?_⟩
  · rw [hxs] at h3
    rw [List.flatMap_def]; exact h3
  · rw [hl, ← h2]
    have := bulkS_lenA D
    omega
end
end Go.Vc
