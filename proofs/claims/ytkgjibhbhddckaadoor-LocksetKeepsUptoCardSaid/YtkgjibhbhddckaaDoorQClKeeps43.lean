/- what the rows' reading of a struct of ints, of a list of events, and of a row of ints or bools says. -/
import Derived.Test.YtkgjibhbhddckaaDoorRows
import Derived.Test.YtkgjibhbhddckaaDoorQClKeeps40
import Derived.Test.YtkgjibhbhddckaaDoorQClKeeps16
import Derived.Test.YtkgjibhbhddckaaDoorQClKeeps22
import Derived.Test.YtkgjibhbhddckaaDoorQClKeeps28
import Derived.OpenShut
import Derived.Deep.DeepHandedRow
import Derived.Test.YtkgjibhbhddckaaDoorQClKeeps42
namespace Go.Vc
open Go Go.Proofs Go.ChangeShapes
set_option maxRecDepth 10000
theorem bulkS_lenA {H : Type} : ∀ (l : List (DataW H)), l.length ≤ Go.Proofs.YtkgjibhbhddckaaDoor.Rows.uptoBulkAll l
  | [] => by simp [Go.Proofs.YtkgjibhbhddckaaDoor.Rows.uptoBulkAll]
  | d :: r => by
    have ih := bulkS_lenA r
    have h1 : 1 ≤ Go.Proofs.YtkgjibhbhddckaaDoor.Rows.uptoBulk d := by
      cases d with
      | lit l => cases l <;> simp [Go.Proofs.YtkgjibhbhddckaaDoor.Rows.uptoBulk]
      | _ => simp [Go.Proofs.YtkgjibhbhddckaaDoor.Rows.uptoBulk]
    simp only [List.length_cons, Go.Proofs.YtkgjibhbhddckaaDoor.Rows.uptoBulkAll]; omega
theorem bulkS_mem {H : Type} {d : DataW H} : ∀ {l : List (DataW H)}, d ∈ l → Go.Proofs.YtkgjibhbhddckaaDoor.Rows.uptoBulk d ≤ Go.Proofs.YtkgjibhbhddckaaDoor.Rows.uptoBulkAll l
  | [], h => by simp at h
  | x :: r, h => by
    simp only [Go.Proofs.YtkgjibhbhddckaaDoor.Rows.uptoBulkAll]
    rcases List.mem_cons.1 h with rfl | h
    · omega
    · have := bulkS_mem h; omega
theorem bulkS_lits {H : Type} (k : IntKind) (zs : List Int) : Go.Proofs.YtkgjibhbhddckaaDoor.Rows.uptoBulkAll (lits (H := H) k zs) = zs.length := by
  induction zs with
  | nil => rfl
  | cons z r ih => show Go.Proofs.YtkgjibhbhddckaaDoor.Rows.uptoBulk (DataW.lit (.int k z)) + Go.Proofs.YtkgjibhbhddckaaDoor.Rows.uptoBulkAll (lits k r) = _; rw [ih]; simp only [Go.Proofs.YtkgjibhbhddckaaDoor.Rows.uptoBulk, List.length_cons]; omega
/-- one cell that is a slice of integers -/
theorem rdS_row {H : Type} {enc : TypeId × Value → H} {P : Program} {w : World} {base : Nat} {sp : Nat → Bool} {held : Bool} {t e : TypeId} {k : IntKind} {fuel : Nat} {v : Value} {x : DataW H × List MemPlace} (ht : P.underlying t = some (.slice e)) (he : P.underlying e = some (.int k)) (hc : P.cellsOf e = 1)
    (h : DataW.trod enc P w base sp held fuel t [v] = some x) : ∃ a cap, ∃ zs : List Int, v = .slice a zs.length cap ∧ ReadS w a (zs.map (Value.int k)) ∧ (∀ n ∈ zs, (Lit.int k n).wf = true) ∧ zs.length ≤ Go.Proofs.YtkgjibhbhddckaaDoor.Rows.uptoBulk x.1 := by
  rcases open_ints ht he hc h with ⟨hcs, hx⟩ | ⟨a, l, c, zs, hcs, _, hl, hm, hz, hx, hcell, hwz⟩
  · simp at hcs
    exact ⟨none, 0, [], hcs, rfl, by simp, by simp⟩
  · simp at hcs
    have hlz : l ≤ zs.length := by rw [hz]; split <;> omega
    have hlen : (zs.take l).length = l := by rw [List.length_take]; omega
    refine ⟨some a, c, zs.take l, by rw [hlen]; exact hcs, ?_, fun n hn => hwz n (List.mem_of_mem_take hn), ?_⟩
    · intro i y hy
      rw [List.getElem?_map, List.getElem?_take] at hy
      split at hy
      · rename_i hi
        have hi2 : i < zs.length := by omega
        rw [List.getElem?_eq_getElem hi2] at hy
        simp at hy; subst hy
        rw [hcell i hi2, List.getD_eq_getElem?_getD, List.getElem?_eq_getElem hi2]; rfl
      · simp at hy
    · rw [hx]
      simp only [Go.Proofs.YtkgjibhbhddckaaDoor.Rows.uptoBulk, bulkS_lits]; omega
theorem flattenS {α β : Type} {f : α → List β} : ∀ (Cs : List (List β)), (∀ cs ∈ Cs, ∃ a, cs = f a) → ∃ l : List α, Cs = l.map f
  | [], _ => ⟨[], rfl⟩
  | c :: r, h => by
    obtain ⟨a, ha⟩ := h c (by simp)
    obtain ⟨l, hl⟩ := flattenS r (fun cs hcs => h cs (by simp [hcs]))
    exact ⟨a :: l, by rw [ha, hl]; rfl⟩
section
variable {H : Type} {enc : TypeId × Value → H} {w : World} {base : Nat} {sp : Nat → Bool} {held : Bool} {fuel : Nat} {d : DataW H} {ps : List MemPlace}
/-- a list of events -/
theorem rd_evs {a : Option Addr} {len cap : Nat} (h : DataW.trod enc Tryd.prog w base sp held fuel 55 (Value.slice a len cap).cells.toList = some (d, ps)) :
    ∃ xs : List Ev, (ReadS w a (evsC xs) ∧ xs.length = len ∧ len ≤ cap) ∧ xs.length ≤ Go.Proofs.YtkgjibhbhddckaaDoor.Rows.uptoBulk d := by
  obtain ⟨n, Cs, D, h1, h2, h3, h4, h5, hcap, _⟩ := trod_recs (m := 3) Tryd.underlying55 (by kernel_rfl) h
  have hall : Go.Proofs.YtkgjibhbhddckaaDoor.Rows.uptoBulkAll D ≤ Go.Proofs.YtkgjibhbhddckaaDoor.Rows.uptoBulk d := by
    rcases h5 with ⟨e1, e2⟩ | ⟨spp, e1⟩
    · rw [e2]; simp [Go.Proofs.YtkgjibhbhddckaaDoor.Rows.uptoBulkAll]
    · dsimp only at e1
      rw [e1]
      simp only [Go.Proofs.YtkgjibhbhddckaaDoor.Rows.uptoBulk]; omega
  have key : ∀ cs ∈ Cs, ∃ x : Ev, cs = evC x := by
    intro cs hcs
    obtain ⟨i, hi⟩ := List.getElem?_of_mem hcs
    obtain ⟨g1, d', p', g3, g2⟩ := h4 i cs hi
    obtain ⟨xs, m, _, gx, _, g5, g6⟩ := DataW.trod_struct Tryd.underlying35 g2
    match cs, g1 with
    | [c0, c1, c2], _ =>
      have f0 := g6 0 _ rfl
      have f1 := g6 1 _ rfl
      have f2 := g6 2 _ rfl
      have l6 : xs.length = 3 := g5
      rw [List.getElem?_eq_getElem (by omega)] at f0 f1 f2
      obtain ⟨z0, rfl, w0⟩ := trod_int (k := .i64) (by kernel_rfl) f0
      obtain ⟨z1, rfl, w1⟩ := trod_int (k := .i64) (by kernel_rfl) f1
      obtain ⟨z2, rfl, w2⟩ := trod_int (k := .i64) (by kernel_rfl) f2
      exact ⟨⟨z0, z1, z2⟩, rfl⟩
  obtain ⟨xs, hxs⟩ := flattenS (f := evC) Cs key
  have hl : xs.length = len := by rw [← h1, hxs]; simp
  refine ⟨xs, ⟨?_, hl, hcap⟩, ?_⟩
  · rw [hxs] at h3
    unfold evsC
    rw [List.flatMap_def]; exact h3
  · rw [hl, ← h2]
    have := bulkS_lenA D
    omega
/-- a shape -/
theorem rd_shp {cs : Array Value} (h : DataW.trod enc Tryd.prog w base sp held fuel 29 (Value.agg cs).cells.toList = some (d, ps)) :
    ∃ (s : Shp) (pad : Option Addr) (cap : Nat), (cs = ⟨shC s pad cap⟩ ∧ ReadS w pad (s.pa.map I)) ∧ s.pa.length ≤ Go.Proofs.YtkgjibhbhddckaaDoor.Rows.uptoBulk d := by
  have h : DataW.trod enc Tryd.prog w base sp held fuel 29 cs.toList = some (d, ps) := h
  obtain ⟨xs, m, _, gx, g1, g5, g6⟩ := DataW.trod_struct Tryd.underlying29 h
  have gd := congrArg Prod.fst gx
  dsimp only at gd
  obtain ⟨cs⟩ := cs
  have g1 : cs.length = 5 := g1
  match cs, g1 with
  | [c0, c1, c2, c3, c4], _ =>
    have f0 := g6 0 _ rfl
    have f1 := g6 1 _ rfl
    have f2 := g6 2 _ rfl
    have f3 := g6 3 _ rfl
    have f4 := g6 4 _ rfl
    have l6 : xs.length = 5 := g5
    rw [List.getElem?_eq_getElem (by omega)] at f0 f1 f2 f3 f4
    obtain ⟨z0, rfl, w0⟩ := trod_int (k := .i64) (by kernel_rfl) f0
    obtain ⟨z1, rfl, w1⟩ := trod_int (k := .i64) (by kernel_rfl) f1
    obtain ⟨z2, rfl, w2⟩ := trod_int (k := .i64) (by kernel_rfl) f2
    obtain ⟨z3, rfl, w3⟩ := trod_int (k := .i64) (by kernel_rfl) f3
    obtain ⟨a4, c4, z4, rfl, r4, q4, s4⟩ := rdS_row Tryd.underlying22 Tryd.underlying3 (by kernel_rfl) f4
    have m4 : Go.Proofs.YtkgjibhbhddckaaDoor.Rows.uptoBulk xs[4].1 ≤ Go.Proofs.YtkgjibhbhddckaaDoor.Rows.uptoBulkAll (xs.map (·.1)) := bulkS_mem (List.mem_map.2 ⟨_, List.getElem_mem _, rfl⟩)
    refine ⟨⟨z0, z1, z2, z3, z4⟩, a4, c4, ⟨rfl, r4⟩, ?_⟩
    rw [gd]
    simp only [Go.Proofs.YtkgjibhbhddckaaDoor.Rows.uptoBulk]
    omega
end
end Go.Vc
/- lockset: LocksetKeeps as the rows want it. -/
namespace Go.Vc
open Go Go.Proofs
theorem locksetKeeps_walk {w : World} (hT : TabW w) {s : Shp} {l : List Ev} {pad ead : Option Addr} {cap elen ecap b1 b2 : Nat} (w0 : ReadS w pad (s.pa.map I)) (w1 : ReadS w ead (evsC l) ∧ l.length = elen ∧ elen ≤ ecap)
    (h0 : s.pa.length ≤ b1) (h1 : l.length ≤ b2) (hb : b1 + (b2 + 0) ≤ 1048576) :
    Calls Tryd.prog 6 #[.agg ⟨shC s pad cap⟩, .slice ead elen ecap] w (fun e w' => e = .returned (.bool true) ∧ RowKit.Below w.heap.size w w') := by
  obtain ⟨w1, rfl, hc⟩ := w1
  exact (locksetKeeps_ret hT w0 (by omega) w1 (by omega)).calls
end Go.Vc
