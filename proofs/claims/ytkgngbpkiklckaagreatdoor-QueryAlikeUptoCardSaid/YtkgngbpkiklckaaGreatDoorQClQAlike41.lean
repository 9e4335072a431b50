/- what the rows' reading of a struct of ints, of a list of events, and of a row of ints or bools says. -/
import Derived.Test.YtkgngbpkiklckaaGreatDoorRows
import Derived.Test.YtkgngbpkiklckaaGreatDoorQClQAlike17
import Derived.Test.YtkgngbpkiklckaaGreatDoorQClQAlike8
import Derived.Test.YtkgngbpkiklckaaGreatDoorQClQAlike30
import Derived.Test.YtkgngbpkiklckaaGreatDoorQClQAlike25
import Derived.OpenShut
import Derived.Deep.DeepHandedRow
import Derived.Test.YtkgngbpkiklckaaGreatDoorQClQAlike22
import Derived.Test.YtkgngbpkiklckaaGreatDoorQClQAlike40
import Derived.Test.YtkgngbpkiklckaaGreatDoorQClQAlike10
import Derived.Test.YtkgngbpkiklckaaGreatDoorQClQAlike20
namespace Go.Vc
open Go Go.Proofs Go.ChangeShapes
set_option maxRecDepth 10000
theorem bulkS_lenA {H : Type} : ∀ (l : List (DataW H)), l.length ≤ Go.Proofs.YtkgngbpkiklckaaGreatDoor.Rows.uptoBulkAll l
  | [] => by simp [Go.Proofs.YtkgngbpkiklckaaGreatDoor.Rows.uptoBulkAll]
  | d :: r => by
    have ih := bulkS_lenA r
    have h1 : 1 ≤ Go.Proofs.YtkgngbpkiklckaaGreatDoor.Rows.uptoBulk d := by
      cases d with
      | lit l => cases l <;> simp [Go.Proofs.YtkgngbpkiklckaaGreatDoor.Rows.uptoBulk]
      | _ => simp [Go.Proofs.YtkgngbpkiklckaaGreatDoor.Rows.uptoBulk]
    simp only [List.length_cons, Go.Proofs.YtkgngbpkiklckaaGreatDoor.Rows.uptoBulkAll]; omega
theorem bulkS_mem {H : Type} {d : DataW H} : ∀ {l : List (DataW H)}, d ∈ l → Go.Proofs.YtkgngbpkiklckaaGreatDoor.Rows.uptoBulk d ≤ Go.Proofs.YtkgngbpkiklckaaGreatDoor.Rows.uptoBulkAll l
  | [], h => by simp at h
  | x :: r, h => by
    simp only [Go.Proofs.YtkgngbpkiklckaaGreatDoor.Rows.uptoBulkAll]
    rcases List.mem_cons.1 h with rfl | h
    · omega
    · have := bulkS_mem h; omega
theorem bulkS_lits {H : Type} (k : IntKind) (zs : List Int) : Go.Proofs.YtkgngbpkiklckaaGreatDoor.Rows.uptoBulkAll (lits (H := H) k zs) = zs.length := by
  induction zs with
  | nil => rfl
  | cons z r ih => show Go.Proofs.YtkgngbpkiklckaaGreatDoor.Rows.uptoBulk (DataW.lit (.int k z)) + Go.Proofs.YtkgngbpkiklckaaGreatDoor.Rows.uptoBulkAll (lits k r) = _; rw [ih]; simp only [Go.Proofs.YtkgngbpkiklckaaGreatDoor.Rows.uptoBulk, List.length_cons]; omega
/-- one cell that is a slice of integers -/
theorem rdS_row {H : Type} {enc : TypeId × Value → H} {P : Program} {w : World} {base : Nat} {sp : Nat → Bool} {held : Bool} {t e : TypeId} {k : IntKind} {fuel : Nat} {v : Value} {x : DataW H × List MemPlace} (ht : P.underlying t = some (.slice e)) (he : P.underlying e = some (.int k)) (hc : P.cellsOf e = 1)
    (h : DataW.trod enc P w base sp held fuel t [v] = some x) : ∃ a cap, ∃ zs : List Int, v = .slice a zs.length cap ∧ ReadS w a (zs.map (Value.int k)) ∧ (∀ n ∈ zs, (Lit.int k n).wf = true) ∧ zs.length ≤ Go.Proofs.YtkgngbpkiklckaaGreatDoor.Rows.uptoBulk x.1 := by
  rcases open_ints ht he hc h with ⟨hcs, hx⟩ | ⟨a, l, c, zs, hcs, _, hl, hm, hz, hx, hcell, hwz⟩
  · simp at hcs
    exact ⟨none, 0, [], hcs, rfl, by simp, by simp⟩
  · simp at hcs
    have hlz : l ≤ zs.length := by rw [hz]; split <;> omega
    have hlen : (zs.take l).length = l := by rw [List.length_take]; omega
    refine ⟨some a, c, zs.take l, by rw [hlen]; exact hcs, ?_, fun n hn => hwz n (List.mem_of_mem_take hn), ?_⟩
    · intro i y hy
      rw [List.getElem?_map, List.getElem?_take] at hy
      split at hy
      · rename_i hi
        have hi2 : i < zs.length := by omega
        rw [List.getElem?_eq_getElem hi2] at hy
        simp at hy; subst hy
        rw [hcell i hi2, List.getD_eq_getElem?_getD, List.getElem?_eq_getElem hi2]; rfl
      · simp at hy
    · rw [hx]
      simp only [Go.Proofs.YtkgngbpkiklckaaGreatDoor.Rows.uptoBulk, bulkS_lits]; omega
theorem wfI {x : Int} (h : (Lit.int .i64 x).wf = true) : -9223372036854775808 ≤ x ∧ x ≤ 9223372036854775807 := by simpa [Lit.wf, IntKind.min, IntKind.max, IntKind.signed, IntKind.bits] using h
theorem flattenS {α β : Type} {f : α → List β} : ∀ (Cs : List (List β)), (∀ cs ∈ Cs, ∃ a, cs = f a) → ∃ l : List α, Cs = l.map f
  | [], _ => ⟨[], rfl⟩
  | c :: r, h => by
    obtain ⟨a, ha⟩ := h c (by simp)
    obtain ⟨l, hl⟩ := flattenS r (fun cs hcs => h cs (by simp [hcs]))
    exact ⟨a :: l, by rw [ha, hl]; rfl⟩
section
variable {H : Type} {enc : TypeId × Value → H} {w : World} {base : Nat} {sp : Nat → Bool} {held : Bool} {fuel : Nat} {d : DataW H} {ps : List MemPlace}
/-- a list of events -/
theorem rd_evs {a : Option Addr} {len cap : Nat} (h : DataW.trod enc Tryz.prog w base sp held fuel 28 (Value.slice a len cap).cells.toList = some (d, ps)) :
    ∃ xs : List Ev, (ReadS w a (evsC xs) ∧ xs.length = len ∧ len ≤ cap) ∧ xs.length ≤ Go.Proofs.YtkgngbpkiklckaaGreatDoor.Rows.uptoBulk d := by
  obtain ⟨n, Cs, D, h1, h2, h3, h4, h5, hcap, _⟩ := trod_recs (m := 3) Tryz.underlying28 (by kernel_rfl) h
  have hall : Go.Proofs.YtkgngbpkiklckaaGreatDoor.Rows.uptoBulkAll D ≤ Go.Proofs.YtkgngbpkiklckaaGreatDoor.Rows.uptoBulk d := by
    rcases h5 with ⟨e1, e2⟩ | ⟨spp, e1⟩
    · rw [e2]; simp [Go.Proofs.YtkgngbpkiklckaaGreatDoor.Rows.uptoBulkAll]
    · dsimp only at e1
      rw [e1]
      simp only [Go.Proofs.YtkgngbpkiklckaaGreatDoor.Rows.uptoBulk]; omega
  have key : ∀ cs ∈ Cs, ∃ x : Ev, cs = evC x := by
    intro cs hcs
    obtain ⟨i, hi⟩ := List.getElem?_of_mem hcs
    obtain ⟨g1, d', p', g3, g2⟩ := h4 i cs hi
    obtain ⟨xs, m, _, gx, _, g5, g6⟩ := DataW.trod_struct Tryz.underlying86 g2
    match cs, g1 with
    | [c0, c1, c2], _ =>
      have f0 := g6 0 _ rfl
      have f1 := g6 1 _ rfl
      have f2 := g6 2 _ rfl
      have l6 : xs.length = 3 := g5
      rw [List.getElem?_eq_getElem (by omega)] at f0 f1 f2
      obtain ⟨z0, rfl, w0⟩ := trod_int (k := .i64) (by kernel_rfl) f0
      obtain ⟨z1, rfl, w1⟩ := trod_int (k := .i64) (by kernel_rfl) f1
      obtain ⟨z2, rfl, w2⟩ := trod_int (k := .i64) (by kernel_rfl) f2
      exact ⟨⟨z0, z1, z2⟩, rfl⟩
  obtain ⟨xs, hxs⟩ := flattenS (f := evC) Cs key
  have hl : xs.length = len := by rw [← h1, hxs]; simp
  refine ⟨xs, ⟨?_, hl, hcap⟩, ?_⟩
  · rw [hxs] at h3
    unfold evsC
    rw [List.flatMap_def]; exact h3
  · rw [hl, ← h2]
    have := bulkS_lenA D
    omega
/-- a shape -/
theorem rd_shp {cs : Array Value} (h : DataW.trod enc Tryz.prog w base sp held fuel 27 (Value.agg cs).cells.toList = some (d, ps)) :
    ∃ (s : Shp) (pad : Option Addr) (cap : Nat), (cs = ⟨shC s pad cap⟩ ∧ ReadS w pad (s.pa.map I)) ∧ s.pa.length ≤ Go.Proofs.YtkgngbpkiklckaaGreatDoor.Rows.uptoBulk d := by
  have h : DataW.trod enc Tryz.prog w base sp held fuel 27 cs.toList = some (d, ps) := h
  obtain ⟨xs, m, _, gx, g1, g5, g6⟩ := DataW.trod_struct Tryz.underlying27 h
  have gd := congrArg Prod.fst gx
  dsimp only at gd
  obtain ⟨cs⟩ := cs
  have g1 : cs.length = 5 := g1
  match cs, g1 with
  | [c0, c1, c2, c3, c4], _ =>
    have f0 := g6 0 _ rfl
    have f1 := g6 1 _ rfl
    have f2 := g6 2 _ rfl
    have f3 := g6 3 _ rfl
    have f4 := g6 4 _ rfl
    have l6 : xs.length = 5 := g5
    rw [List.getElem?_eq_getElem (by omega)] at f0 f1 f2 f3 f4
    obtain ⟨z0, rfl, w0⟩ := trod_int (k := .i64) (by kernel_rfl) f0
    obtain ⟨z1, rfl, w1⟩ := trod_int (k := .i64) (by kernel_rfl) f1
    obtain ⟨z2, rfl, w2⟩ := trod_int (k := .i64) (by kernel_rfl) f2
    obtain ⟨z3, rfl, w3⟩ := trod_int (k := .i64) (by kernel_rfl) f3
    obtain ⟨a4, c4, z4, rfl, r4, q4, s4⟩ := rdS_row Tryz.underlying25 Tryz.underlying3 (by kernel_rfl) f4
    have m4 : Go.Proofs.YtkgngbpkiklckaaGreatDoor.Rows.uptoBulk xs[4].1 ≤ Go.Proofs.YtkgngbpkiklckaaGreatDoor.Rows.uptoBulkAll (xs.map (·.1)) := bulkS_mem (List.mem_map.2 ⟨_, List.getElem_mem _, rfl⟩)
    refine ⟨⟨z0, z1, z2, z3, z4⟩, a4, c4, ⟨rfl, r4⟩, ?_⟩
    rw [gd]
    simp only [Go.Proofs.YtkgngbpkiklckaaGreatDoor.Rows.uptoBulk]
    omega
end
end Go.Vc
/- what the rows' reading of a question (a tree, a shape, events, names) says. -/
namespace Go.Vc
open Go Go.Proofs Go.ChangeShapes
set_option maxRecDepth 10000
/-- a question as it came in -/
structure AG where
  txt : List UInt8
  l : List QN
  s : Shp
  E : List Ev
  fuel : Int
  fr : List UInt8
  tt : List UInt8
  qad : Option Addr
  qcap : Nat
  pad : Option Addr
  pcap : Nat
  ead : Option Addr
  ecap : Nat
def AG.C (x : AG) : List Value := [S x.txt, .slice x.qad x.l.length x.qcap, I x.s.th, I x.s.va, I x.s.vo, I x.s.lo, .slice x.pad x.s.pa.length x.pcap, .slice x.ead x.E.length x.ecap, I x.fuel, S x.fr, S x.tt]
structure AG.Ok (w : World) (x : AG) : Prop where
  rows : Rows w x.qad x.qcap x.l
  txt : x.txt.length ≤ 1048576
  fr : x.fr.length ≤ 1048576
  tt : x.tt.length ≤ 1048576
  pa : ReadS w x.pad (x.s.pa.map I)
  pal : x.s.pa.length ≤ 1048576
  ev : ReadS w x.ead (evsC x.E)
  evl : x.E.length ≤ 1048576
  evc : x.E.length ≤ x.ecap
  fuel : -9223372036854775808 ≤ x.fuel ∧ x.fuel ≤ 9223372036854775807
section
variable {H : Type} {enc : TypeId × Value → H} {w : World} {base : Nat} {sp : Nat → Bool} {held : Bool} {fuel : Nat} {d : DataW H} {ps : List MemPlace}
theorem trod_isS {P : Program} {t e : TypeId} {v : Value} {x : DataW H × List MemPlace} (ht : P.underlying t = some (.slice e)) (h : DataW.trod enc P w base sp held fuel t [v] = some x) : ∃ a len cap, v = .slice a len cap := by
  rcases Go.Deep.open_slice ht h with ⟨hc, _⟩ | ⟨a', len', cap', mm, n, D, Pl, hc, _⟩
  · simp at hc; exact ⟨_, _, _, hc⟩
  · simp at hc; exact ⟨_, _, _, hc⟩
/-- a row of nodes -/
theorem rd_rowsQ {v : Value} (h : DataW.trod enc Tryz.prog w base sp held fuel 22 [v] = some (d, ps)) :
    ∃ (a : Option Addr) (cap : Nat) (xs : List QN), v = .slice a xs.length cap ∧ xs.length ≤ Go.Proofs.YtkgngbpkiklckaaGreatDoor.Rows.uptoBulk d ∧ ∀ B, Go.Proofs.YtkgngbpkiklckaaGreatDoor.Rows.uptoBulk d ≤ B → B ≤ 1048576 → Rows w a cap xs := by
  obtain ⟨a, len, cap, rfl⟩ := trod_isS Tryz.underlying22 h
  obtain ⟨n, Cs, D, h1, h2, h3, h4, h5, hcap, hcm⟩ := trod_recs (m := 4) Tryz.underlying22 (by kernel_rfl) h
  have hall : Go.Proofs.YtkgngbpkiklckaaGreatDoor.Rows.uptoBulkAll D ≤ Go.Proofs.YtkgngbpkiklckaaGreatDoor.Rows.uptoBulk d := by
    rcases h5 with ⟨e1, e2⟩ | ⟨spp, e1⟩
    · rw [e2]; simp [Go.Proofs.YtkgngbpkiklckaaGreatDoor.Rows.uptoBulkAll]
    · dsimp only at e1
      rw [e1]
      simp only [Go.Proofs.YtkgngbpkiklckaaGreatDoor.Rows.uptoBulk]; omega
  have key : ∀ cs ∈ Cs, ∃ x : QN, cs = qC x ∧ (x.num ≤ 9223372036854775807 ∧ x.name.length ≤ Go.Proofs.YtkgngbpkiklckaaGreatDoor.Rows.uptoBulk d) := by
    intro cs hcs
    obtain ⟨i, hi⟩ := List.getElem?_of_mem hcs
    obtain ⟨g1, d', p', g3, g2⟩ := h4 i cs hi
    obtain ⟨xs, m, _, gx, _, g5, g6⟩ := DataW.trod_struct Tryz.underlying81 g2
    have hd' := bulkS_mem (List.mem_of_getElem? g3)
    have gd := congrArg Prod.fst gx
    dsimp only at gd
    match cs, g1 with
    | [c0, c1, c2, c3], _ =>
      have f0 := g6 0 _ rfl
      have f1 := g6 1 _ rfl
      have f2 := g6 2 _ rfl
      have f3 := g6 3 _ rfl
      have l6 : xs.length = 4 := g5
      rw [List.getElem?_eq_getElem (by omega)] at f0 f1 f2 f3
      obtain ⟨z0, rfl, w0⟩ := trod_int (k := .i64) (by kernel_rfl) f0
      obtain ⟨z1, rfl, w1⟩ := trod_int (k := .i64) (by kernel_rfl) f1
      obtain ⟨z2, rfl, w2⟩ := trod_int (k := .i64) (by kernel_rfl) f2
      obtain ⟨z3, rfl, w3, b3⟩ := trod_str (by kernel_rfl) f3
      have m3 : Go.Proofs.YtkgngbpkiklckaaGreatDoor.Rows.uptoBulk xs[3].1 ≤ Go.Proofs.YtkgngbpkiklckaaGreatDoor.Rows.uptoBulkAll (xs.map (·.1)) := bulkS_mem (List.mem_map.2 ⟨_, List.getElem_mem _, rfl⟩)
      rw [gd] at hd'
      rw [b3] at m3
      simp only [Go.Proofs.YtkgngbpkiklckaaGreatDoor.Rows.uptoBulk] at hd' m3
      exact ⟨⟨z0, z1, z2, z3.data.toList⟩, rfl, (wfI w2).2, by dsimp only; omega⟩
  have flat : ∀ Ds : List (List Value), (∀ cs ∈ Ds, ∃ x : QN, cs = qC x ∧ (x.num ≤ 9223372036854775807 ∧ x.name.length ≤ Go.Proofs.YtkgngbpkiklckaaGreatDoor.Rows.uptoBulk d)) → ∃ l : List QN, Ds = l.map qC ∧ ∀ x ∈ l, (x.num ≤ 9223372036854775807 ∧ x.name.length ≤ Go.Proofs.YtkgngbpkiklckaaGreatDoor.Rows.uptoBulk d) := by
    intro Ds
    induction Ds with
    | nil => intro _; exact ⟨[], rfl, by simp⟩
    | cons c r ih =>
      intro hh
      obtain ⟨x, hx, hp⟩ := hh c (by simp)
      obtain ⟨l, hl, hq⟩ := ih (fun cs hcs => hh cs (by simp [hcs]))
      refine ⟨x :: l, by rw [hx, hl]; rfl, fun y hy => ?_⟩
      rcases List.mem_cons.1 hy with rfl | hy
      · exact hp
      · exact hq y hy
  obtain ⟨xs, hxs, hp⟩ := flat Cs key
  have hl : xs.length = len := by rw [← h1, hxs]; simp
  have hlb : xs.length ≤ Go.Proofs.YtkgngbpkiklckaaGreatDoor.Rows.uptoBulk d := by
    rw [hl, ← h2]
    have := bulkS_lenA D
    omega
  refine ⟨a, cap, xs, by rw [hl], hlb, fun B hB hB2 => ⟨?_, by omega, hcm, by omega, fun x hx => ?_, fun x hx => (hp x hx).1⟩⟩
  · rw [hxs] at h3
    rw [List.flatMap_def]; exact h3
  · have := (hp x hx).2; omega
/-- a question -/
theorem rd_ask {cs : Array Value} (h : DataW.trod enc Tryz.prog w base sp held fuel 30 (Value.agg cs).cells.toList = some (d, ps)) :
    ∃ x : AG, cs = ⟨x.C⟩ ∧ ∀ B, Go.Proofs.YtkgngbpkiklckaaGreatDoor.Rows.uptoBulk d ≤ B → B ≤ 1048576 → AG.Ok w x := by
  have h : DataW.trod enc Tryz.prog w base sp held fuel 30 cs.toList = some (d, ps) := h
  obtain ⟨xs, m, _, gx, g1, g5, g6⟩ := DataW.trod_struct Tryz.underlying30 h
  have gd := congrArg Prod.fst gx
  dsimp only at gd
  obtain ⟨cs⟩ := cs
  have g1 : cs.length = 11 := g1
  match cs, g1 with
  | [c0, c1, c2, c3, c4, c5, c6, c7, c8, c9, c10], _ =>
    have f0 := g6 0 _ rfl
    have f1 := g6 1 _ rfl
    have f2 := g6 2 _ rfl
    have f3 := g6 3 _ rfl
    have f4 := g6 4 _ rfl
    have f5 := g6 5 _ rfl
    have f6 := g6 6 _ rfl
    have l6 : xs.length = 7 := g5
    have mm : ∀ i (hi : i < xs.length), Go.Proofs.YtkgngbpkiklckaaGreatDoor.Rows.uptoBulk xs[i].1 ≤ Go.Proofs.YtkgngbpkiklckaaGreatDoor.Rows.uptoBulkAll (xs.map (·.1)) := fun i hi => bulkS_mem (List.mem_map.2 ⟨_, List.getElem_mem hi, rfl⟩)
    rw [List.getElem?_eq_getElem (by omega)] at f0 f1 f2 f3 f4 f5 f6
    obtain ⟨z0, rfl, w0, b0⟩ := trod_str (by kernel_rfl) f0
    have f1' : DataW.trod enc Tryz.prog w base sp held m 24 [c1] = some xs[1] := f1
    obtain ⟨ys, m', _, gy, _, k5, k6⟩ := DataW.trod_struct Tryz.underlying24 f1'
    have q0 := k6 0 _ rfl
    have k5 : ys.length = 1 := k5
    rw [List.getElem?_eq_getElem (by omega)] at q0
    have q0' : DataW.trod enc Tryz.prog w base sp held m' 22 [c1] = some (ys[0].1, ys[0].2) := q0
    obtain ⟨qad, qcap, l, rfl, lb, hR⟩ := rd_rowsQ q0'
    have my : Go.Proofs.YtkgngbpkiklckaaGreatDoor.Rows.uptoBulk ys[0].1 ≤ Go.Proofs.YtkgngbpkiklckaaGreatDoor.Rows.uptoBulkAll (ys.map (·.1)) := bulkS_mem (List.mem_map.2 ⟨_, List.getElem_mem _, rfl⟩)
    have gdy := congrArg Prod.fst gy
    dsimp only at gdy
    have f2' : DataW.trod enc Tryz.prog w base sp held m 27 (Value.agg ⟨[c2, c3, c4, c5, c6]⟩).cells.toList = some (xs[2].1, xs[2].2) := f2
    obtain ⟨s, pad, pcap, ⟨hs, hpa⟩, hpl⟩ := rd_shp f2'
    simp only [shC, Array.mk.injEq, List.cons.injEq, and_true] at hs
    obtain ⟨rfl, rfl, rfl, rfl, rfl⟩ := hs
    have f3' : DataW.trod enc Tryz.prog w base sp held m 28 [c7] = some (xs[3].1, xs[3].2) := f3
    obtain ⟨ead, elen, ecap, rfl⟩ := trod_isS Tryz.underlying28 f3'
    obtain ⟨E, ⟨hE, rfl, hec⟩, hel⟩ := rd_evs (a := ead) (len := elen) (cap := ecap) f3'
    obtain ⟨z4, rfl, w4⟩ := trod_int (k := .i64) (by kernel_rfl) f4
    obtain ⟨z5, rfl, w5, b5⟩ := trod_str (by kernel_rfl) f5
    obtain ⟨z6, rfl, w6, b6⟩ := trod_str (by kernel_rfl) f6
    have n0 := mm 0 (by omega)
    have n1 := mm 1 (by omega)
    have n2 := mm 2 (by omega)
    have n3 := mm 3 (by omega)
    have n5 := mm 5 (by omega)
    have n6 := mm 6 (by omega)
    rw [b0] at n0
    rw [gdy] at n1
    rw [b5] at n5
    rw [b6] at n6
    simp only [Go.Proofs.YtkgngbpkiklckaaGreatDoor.Rows.uptoBulk] at n0 n1 n5 n6
    refine ⟨⟨z0.data.toList, l, s, E, z4, z5.data.toList, z6.data.toList, qad, qcap, pad, pcap, ead, ecap⟩, rfl, fun B hB hB2 => ?_⟩
    rw [gd] at hB
    simp only [Go.Proofs.YtkgngbpkiklckaaGreatDoor.Rows.uptoBulk] at hB
    exact ⟨hR 1048576 (by omega) (Nat.le_refl _), by dsimp only; omega, by dsimp only; omega, by dsimp only; omega, hpa, by dsimp only; omega, hE, by dsimp only; omega, hec, wfI w4⟩
end
end Go.Vc
/- Query: what fuel does; few; loads out of a question. -/
namespace Go.Vc
open Go Go.Proofs
set_option maxRecDepth 20000
variable {w : World}
theorem looked_err {l : List QN} {c : Int} (h : lookedM l = .error c) : c ≠ 0 := by
  unfold lookedM at h
  split at h
  · cases h; decide
  · split at h
    · cases h; decide
    · split at h
      · cases h; decide
      · cases h
structure FuelL (r : Rep) (fuel : Int) (b c d : Rep × Int) : Prop where
  s1 : 1 ≤ r.steps
  s2 : r.steps ≤ fuel
  tr : r.sort = 2 → r.num = 0
  nu : r.sort = 1 → r.truth = false
  st : r.steps ≤ 67108864
  b : b = (r, 0)
  c : c = (rep0, 306)
  d : d = (r, 0)
/-- a part of a block -/
theorem Blk.sub {b : Nat} {vs : List Value} {T : TypeId} (h : Blk w b vs T) (o : Nat) (us : List Value) (hu : (vs.drop o).take us.length = us) : ∀ j v, us[j]? = some v → w.cell? ⟨b, o + j, none⟩ = some v := by
  intro j v hv
  refine h.cell ?_
  rw [← hu, List.getElem?_take] at hv
  split at hv
  · rwa [List.getElem?_drop] at hv
  · cases hv
section
variable {P : Program} {n : Nat} {e : Env} {K : EPost} {all : List Oper} {G : List Nat} {ro : Ro} {dst : Option Tmp} {ty : TypeId} {pos : String} {after : Array Edge} {g : Option (Nat × Bool)} {l : List Oper}
/-- one plain operation alone whose truth is known -/
theorem o_pureB {op : Op} {c : Bool} (b : Bool) (hp : pureOp P e op = some (none, .bool c)) (hc : c = b) (hd : dOk n dst = true) (hm : may all G e g = some true) (k : Ops ro P n all G K l (put e dst (.bool b)) w) : Ops ro P n all G K (⟨dst, op, ty, pos, after, g⟩ :: l) e w :=
  o_pure1 (by rw [hp, hc]) hd hm k
end
end Go.Vc
/- Query: QueryFuel. -/
namespace Go.Vc
open Go Go.Proofs
set_option maxRecDepth 20000
variable {w : World}
theorem AG.Ok.kp {w' : World} {x : AG} (h : x.Ok w) (hk : Kp [] w w') : x.Ok w' := ⟨h.rows.kp hk (by simp), h.txt, h.fr, h.tt, h.pa.kp hk (by simp), h.pal, h.ev.kp hk (by simp), h.evl, h.evc, h.fuel⟩
end Go.Vc
/- Query: a name in another one's place, in plain Lean (no program in sight). -/
namespace Go.Vc
open Go
variable {a c : List UInt8}
/-- a name, one in another one's place -/
def rn (a c n : List UInt8) : List UInt8 := if n = a then c else n
def rnN (a c : List UInt8) (x : QN) : QN := if x.name = a then { x with name := c } else x
def rnT (a c : List UInt8) : QT → QT
  | .n0 op num name => .n0 op num (rn a c name)
  | .n1 op num name x => .n1 op num (rn a c name) (rnT a c x)
  | .n2 op num name x y => .n2 op num (rn a c name) (rnT a c x) (rnT a c y)
/-- a name stands nowhere in a tree -/
def freeT (c : List UInt8) : QT → Prop
  | .n0 _ _ name => name ≠ c
  | .n1 _ _ name x => name ≠ c ∧ freeT c x
  | .n2 _ _ name x y => name ≠ c ∧ freeT c x ∧ freeT c y
/-- names in a row -/
def hasM (l : List QN) (n : List UInt8) : Bool := l.any fun x => decide (x.name = n)
end Go.Vc
/- Query: has, Same; a renamed question is asked. -/
namespace Go.Vc
open Go Go.Proofs
set_option maxRecDepth 20000
variable {w : World}
/-- a node's cells -/
theorem Rows.cellN {ad : Option Addr} {cap : Nat} {l : List QN} (h : Rows w ad cap l) {i : Nat} {x : QN} (hx : l[i]? = some x) : ∃ b off, ad = some ⟨b, off, none⟩ ∧ b < w.heap.size ∧ ∀ j v, (qC x)[j]? = some v → w.cell? ⟨b, off + i * 4 + j, none⟩ = some v := by
  have hi := (List.getElem?_eq_some_iff.1 hx).1
  have hfl : (l.flatMap qC).length = l.length * 4 := by
    clear h hx hi
    induction l with
    | nil => rfl
    | cons y r ih => rw [List.flatMap_cons, List.length_append, ih, List.length_cons]; simp [qC]; omega
  obtain ⟨b, off, rfl, hbl, hcell⟩ := h.read.at_ (by rw [hfl]; omega)
  exact ⟨b, off, rfl, hbl, fun j v hv => by rw [Nat.add_assoc]; exact hcell _ _ (flC_get (f := qC) (m := 4) (fun _ => rfl) hx hv)⟩
end Go.Vc
/- Query: lent. -/
namespace Go.Vc
open Go Go.Proofs
set_option maxRecDepth 20000
variable {w : World}
/-- the marks behind a lent tree -/
def mkN (i : Nat) : QN := ⟨0, -100 - (i : Int), 0, []⟩
def marksN (i : Nat) : List QN := (List.range i).map mkN
theorem qC_one {l : List QN} : ∀ v ∈ l.flatMap qC, v.oneCell' = true := fun v hv => by
  obtain ⟨x, _, hx⟩ := List.mem_flatMap.1 hv
  simp [qC] at hx
  rcases hx with rfl | rfl | rfl | rfl <;> rfl
/-- a row's beginning -/
theorem OwnS.rowsP {ad : Option Addr} {cap : Nat} {l m : List QN} (h : OwnS w 81 4 ad (l.length + m.length) cap ((l ++ m).flatMap qC)) (hl : l.length ≤ 1048576) (hnm : ∀ x ∈ l, x.name.length ≤ 9223372036854775806) (hnu : ∀ x ∈ l, x.num ≤ 9223372036854775807) : Rows w ad cap l := by
  have hcap : cap ≤ maxLen := by
    obtain ⟨_, h⟩ := h
    cases ad with
    | none => obtain ⟨_, h⟩ := h; rw [h]; exact Nat.zero_le _
    | some a => obtain ⟨_, _, _, h, _⟩ := h; exact h
  simp only [maxLen] at hcap
  have hle := h.le_cap
  refine ⟨?_, by omega, hcap, hl, hnm, hnu⟩
  have hr := h.readN
  rw [List.flatMap_append] at hr
  cases ad with
  | none =>
    have hr : l.flatMap qC ++ m.flatMap qC = [] := hr
    exact (List.append_eq_nil_iff.1 hr).1
  | some a =>
    intro i v hv
    exact hr i v (by rw [List.getElem?_append_left (List.getElem?_eq_some_iff.1 hv).1]; exact hv)
end Go.Vc
/- Query: asked for races, in plain Lean (no program in sight). -/
namespace Go.Vc
open Go
set_option maxRecDepth 20000
theorem bind_any {f : Int → Int × Nat} : ∀ (l : List Int) (c : Int), (bindL 22 f l c).1 = if l.any (fun i => decide ((f i).1 = 1)) = true then 1 else c
  | [], c => by simp [bindL]
  | i :: r, c => by
    rw [bindL, if_neg (by omega)]
    by_cases h : (f i).1 = 1
    · rw [if_pos ⟨rfl, h⟩]; simp [h]
    · rw [if_neg (fun hh => h hh.2), if_neg (fun hh => h hh.2), bind_any r]
      simp [h, trI]
theorem bind_count {f : Int → Int × Nat} : ∀ (l : List Int) (c : Int), (bindL 24 f l c).1 = c + (l.countP (fun i => decide ((f i).1 = 1)) : Nat)
  | [], c => by simp [bindL]
  | i :: r, c => by
    rw [bindL, if_neg (by omega), if_neg (by omega), if_neg (by omega), bind_count r, List.countP_cons]
    by_cases h : (f i).1 = 1
    · simp [h, trI]; omega
    · simp [h, trI]
theorem bind_least {f : Int → Int × Nat} : ∀ (l : List Int) (c : Int), (bindL 25 f l c).1 = (l.find? (fun i => decide ((f i).1 = 1))).getD (-1)
  | [], c => by simp [bindL]
  | i :: r, c => by
    rw [bindL, if_neg (by omega), if_neg (by omega)]
    by_cases h : (f i).1 = 1
    · rw [if_pos ⟨.inl rfl, h⟩, List.find?_cons_of_pos (by simp [h])]; rfl
    · rw [if_neg (fun hh => h hh.2), bind_least r, List.find?_cons_of_neg (by simp [h])]
/-! ### The three questions -/
def txtE : List UInt8 := [101, 118, 101, 110, 116, 115]
def txtA : List UInt8 := [97, 110, 121, 32, 97, 58, 32, 97, 110, 121, 32, 98, 58, 32, 114, 97, 99, 101, 40, 97, 44, 32, 98, 41]
def txtB : List UInt8 := [99, 111, 117, 110, 116, 32, 97, 58, 32, 97, 110, 121, 32, 98, 58, 32, 98, 32, 60, 32, 97, 32, 97, 110, 100, 32, 114, 97, 99, 101, 40, 98, 44, 32, 97, 41]
def txtC : List UInt8 := [108, 101, 97, 115, 116, 32, 97, 58, 32, 97, 110, 121, 32, 98, 58, 32, 98, 32, 60, 32, 97, 32, 97, 110, 100, 32, 114, 97, 99, 101, 40, 98, 44, 32, 97, 41]
def nmA : QT := .n0 2 0 [97]
def nmB : QT := .n0 2 0 [98]
def inA : QT := .n1 22 0 [98] (.n2 21 0 [] nmA nmB)
def inB : QT := .n1 22 0 [98] (.n2 18 0 [] (.n2 11 0 [] nmB nmA) (.n2 21 0 [] nmB nmA))
def isB (r : Except (Int × Int) QT) (t : QT) : Bool := match r with | .ok u => decide (u = t) | .error _ => false
section
variable {W : QW}
theorem trI_one (b : Bool) : decide (trI b = 1) = b := by cases b <;> rfl
/-- is there a race that ends here? -/
def hitB (W : QW) (a : Nat) : Bool := (List.range W.n).any (fun (b : Nat) => decide ((b : Int) < a) && W.race b a)
end
end Go.Vc
