/- Query: works. -/
import Derived.Test.YtkgngbpkiklckaaGreatDoorQClQBack44
import Derived.Test.YtkgngbpkiklckaaGreatDoorRows
import Derived.Test.YtkgngbpkiklckaaGreatDoorQClQBack17
import Derived.Test.YtkgngbpkiklckaaGreatDoorQClQBack8
import Derived.Test.YtkgngbpkiklckaaGreatDoorQClQBack34
import Derived.Test.YtkgngbpkiklckaaGreatDoorQClQBack30
import Derived.OpenShut
import Derived.Deep.DeepHandedRow
import Derived.Test.YtkgngbpkiklckaaGreatDoorQClQBack26
import Derived.Test.YtkgngbpkiklckaaGreatDoorQClQBack10
namespace Go.Vc
open Go Go.Proofs
set_option maxRecDepth 20000
variable {w : World}
theorem num30_ret (n : Int) : Ret Tryz.prog 13 [I n] w (fun v w' => v = I n ∧ w' = w) := by
  refine enter Tryz.call13 Tryz.func13 rfl rfl rfl rfl ?_
  (repeat first|refine zA ?_|refine zg ?_|refine zo rfl rfl trivial ?_|refine zn ?_|refine zr ?_)
  exact ⟨_, rfl, rfl, rfl⟩
/-! ### What is asked -/
def shW : Shp := ⟨1, 1, 0, 0, []⟩
def shW' : Shp := ⟨1, 0, 0, 0, []⟩
def evW : List Ev := [⟨1, 0, 0⟩, ⟨2, 0, 0⟩]
theorem okW : okTo shW evW evW.length := by
  intro j x hj he
  match j, hj with
  | 0, _ => simp [evW] at he; subst he; decide
  | 1, _ => simp [evW] at he; subst he; decide
theorem askW {R : List Int} : evq (qwO evW R) qt2 (fun _ => 0) = (1, 9) := by rfl
theorem textW : textM txt2 shW evW 100 = (⟨1, 1, false, 9⟩, 0, 0) := by
  have h : askM qt2.rows shW evW 100 = (⟨1, 1, false, 9⟩, 0) := by
    unfold askM
    rw [try2']
    show (if orderM shW evW = 0 then _ else _) = _
    rw [if_pos (orderM_ok rfl (by decide) okW), askW]
    rfl
  unfold textM
  rw [try2]
  show (if (askM qt2.rows shW evW 100).2 = 0 then ((askM qt2.rows shW evW 100).1, 0, 0) else _) = _
  rw [h]
  rfl
theorem textW' : textM txt3 shW' [] 100 = (rep0, 301, 3) := by
  unfold textM
  rw [try3]
set_option maxHeartbeats 6400000 in
theorem works_ret (hA : AscW w) (hP : PowQ w) : Ret Tryz.prog 10 [] w (fun v w' => v = .bool true ∧ Kp [] w w') := by
  obtain ⟨t, ht, hs⟩ := saysB_iff try1
  refine enter Tryz.call10 Tryz.func10 rfl rfl rfl rfl ?_
  (repeat first|refine zA ?_|refine zg ?_|refine zo rfl rfl trivial ?_|refine zn ?_)
  refine o_call (Parse_ret hA txt1 (by decide)) rfl rfl rfl ?_
  rintro v w1 ⟨hv, k1⟩
  rw [ht] at hv
  obtain ⟨ad, cap, rfl, hO, _⟩ := hv
  have hRows := rows_of ht (by decide) hO
  have hsz : t.size = t.rows.length := (QT.rows_len t).symm
  (repeat refine zo rfl rfl trivial ?_)
  refine o_alloc rfl rfl rfl rfl ?_
  intro b1 w2 e1 hu1
  refine o_alloc rfl rfl rfl rfl ?_
  intro b2 w3 e2 hu2
  have l1 := hu1.lt
  have n12 : b1 ≠ b2 := by omega
  refine o_storeA (b := b1) (cs := [.slice ad t.size cap]) rfl (hu2.kept n12 hu1.blk) (Nat.le_refl _) rfl (by simp [Value.oneCell']) rfl rfl rfl rfl ?_
  intro w4 hu4
  refine o_storeA (b := b2) (cs := [I 0, I 0]) rfl (hu4.kept n12.symm hu2.blk) (Nat.le_refl _) rfl (by simp [Value.oneCell']) rfl rfl rfl rfl ?_
  intro w5 hu5
  have g1 : Blk w5 b1 [.slice ad t.size cap] 24 := hu5.kept n12 hu4.blk
  have g2 : Blk w5 b2 [I 0, I 0] 38 := hu5.blk
  have k5 : Kp [] w1 w5 := ((((hu1.kp [] (.inr (by omega)))).trans (hu2.kp [] (.inr (by omega)))).since (hu4.kp [b1] (.inl (by simp))) (by simp; omega)).since (hu5.kp [b2] (.inl (by simp))) (by simp; omega)
  clear hu1 hu2 hu4 hu5
  (repeat first|refine zA ?_|refine zg ?_|refine zn ?_)
  refine o_loadA (vs := [.slice ad t.size cap]) rfl (fun j v hv => by rw [Nat.zero_add]; exact g1.cell hv) rfl rfl rfl rfl rfl rfl ?_
  rw [hsz]
  refine o_call (Print_ret (hA.kp (k1.trans k5) (by simp)) (hP.kp (k1.trans k5) (by simp)) (hRows.kp k5 (by simp))) rfl rfl rfl ?_
  rintro v w6 ⟨rfl, k6⟩
  have hpv : printV t.rows = (say1, 0) := by unfold printV; rw [hs]
  rw [hpv]
  have k06 := (k1.trans k5).trans k6
  have g26 := k6.blk (by simp) g2
  (repeat first|refine zA ?_|refine zg ?_|refine zo rfl rfl trivial ?_|refine zn ?_)
  refine o_build (shC shW none 0) rfl rfl rfl rfl rfl rfl rfl ?_
  refine o_build [I 1, I 0, I 0] rfl rfl rfl rfl rfl rfl rfl ?_
  refine o_build [I 2, I 0, I 0] rfl rfl rfl rfl rfl rfl rfl ?_
  refine o_buildSliceN (evsC evW) rfl rfl rfl (by kernel_rfl) rfl rfl rfl rfl ?_
  intro be w7 hbe hu7
  have k7 : Kp [] w6 w7 := hu7.kp [] (.inr (by omega))
  have k07 := k06.trans k7
  refine o_call (Text_ret (s := shW) (E := evW) (hA.kp k07 (by simp)) txt2 (by decide) (by simp [ReadS, shW]) (by decide) (ReadS.blk hu7.blk) (by decide)) rfl rfl rfl ?_
  rintro v w8 ⟨rfl, k8⟩
  rw [textW]
  have g28 := k8.blk (by simp) (k7.blk (by simp) g26)
  have k08 := k07.trans k8
  clear hu7
  (repeat refine zo rfl rfl trivial ?_)
  refine o_alloc rfl rfl rfl rfl ?_
  intro b5 w9 e5 hu9
  refine o_alloc rfl rfl rfl rfl ?_
  intro b6 w10 e6 hu10
  have l5 := hu9.lt
  have n56 : b5 ≠ b6 := by omega
  refine o_storeA (b := b5) (cs := repC ⟨1, 1, false, 9⟩) rfl (hu10.kept n56 hu9.blk) (Nat.le_refl _) rfl (by simp [Value.oneCell', repC]) rfl rfl rfl rfl ?_
  intro w11 hu11
  refine o_storeA (b := b6) (cs := [I 0, I 0]) rfl (hu11.kept n56.symm hu10.blk) (Nat.le_refl _) rfl (by simp [Value.oneCell']) rfl rfl rfl rfl ?_
  intro w12 hu12
  have k12 : Kp [] w8 w12 := ((((hu9.kp [] (.inr (by omega)))).trans (hu10.kp [] (.inr (by omega)))).since (hu11.kp [b5] (.inl (by simp))) (by simp; omega)).since (hu12.kp [b6] (.inl (by simp))) (by simp; omega)
  have g5 : Blk w12 b5 (repC ⟨1, 1, false, 9⟩) 45 := hu12.kept n56 hu11.blk
  have g6 : Blk w12 b6 [I 0, I 0] 38 := hu12.blk
  have g212 := k12.blk (by simp) g28
  have k012 := k08.trans k12
  clear hu9 hu10 hu11 hu12
  (repeat first|refine zA ?_|refine zg ?_|refine zn ?_)
  refine o_build (shC shW' none 0) rfl rfl rfl rfl rfl rfl rfl ?_
  refine o_call (Text_ret (s := shW') (E := []) (ead := none) (hA.kp k012 (by simp)) txt3 (by decide) (by simp [ReadS, shW']) (by decide) (by simp [ReadS, evsC]) (by decide)) rfl rfl rfl ?_
  rintro v w13 ⟨rfl, k13⟩
  rw [textW']
  have k013 := k012.trans k13
  have g213 := k13.blk (by simp) g212
  have g513 := k13.blk (by simp) g5
  have g613 := k13.blk (by simp) g6
  (repeat refine zo rfl rfl trivial ?_)
  refine o_alloc rfl rfl rfl rfl ?_
  intro b7 w14 e7 hu14
  refine o_alloc rfl rfl rfl rfl ?_
  intro b8 w15 e8 hu15
  have l7 := hu14.lt
  have n78 : b7 ≠ b8 := by omega
  refine o_storeA (b := b7) (cs := repC rep0) rfl (hu15.kept n78 hu14.blk) (Nat.le_refl _) rfl (by simp [Value.oneCell', repC]) rfl rfl rfl rfl ?_
  intro w16 hu16
  refine o_storeA (b := b8) (cs := [I 301, I 3]) rfl (hu16.kept n78.symm hu15.blk) (Nat.le_refl _) rfl (by simp [Value.oneCell']) rfl rfl rfl rfl ?_
  intro w17 hu17
  have k17 : Kp [] w13 w17 := ((((hu14.kp [] (.inr (by omega)))).trans (hu15.kp [] (.inr (by omega)))).since (hu16.kp [b7] (.inl (by simp))) (by simp; omega)).since (hu17.kp [b8] (.inl (by simp))) (by simp; omega)
  have h2 := k17.blk (by simp) g213
  have h5 := k17.blk (by simp) g513
  have h6 := k17.blk (by simp) g613
  have h8 : Blk w17 b8 [I 301, I 3] 38 := hu17.blk
  have k017 := k013.trans k17
  clear hu14 hu15 hu16 hu17
  (repeat first|refine zA ?_|refine zg ?_|refine zo rfl rfl trivial ?_|refine zn ?_)
  refine o_load rfl h2 rfl rfl rfl rfl rfl ?_
  (repeat first|refine zo rfl rfl trivial ?_|refine zT rfl rfl rfl ?_)
  refine o_call (num30_ret _) rfl rfl rfl ?_
  rintro v w18 ⟨rfl, rfl⟩
  (repeat first|refine zo rfl rfl trivial ?_|refine zT rfl rfl rfl ?_|refine o_load rfl h6 rfl rfl rfl rfl rfl ?_)
  refine o_loadA (vs := repC ⟨1, 1, false, 9⟩) rfl (fun j v hv => by rw [Nat.zero_add]; exact h5.cell hv) rfl rfl rfl rfl rfl rfl ?_
  refine o_build (repC ⟨1, 1, false, 9⟩) rfl rfl rfl rfl rfl rfl rfl ?_
  refine o_eqX (repC ⟨1, 1, false, 9⟩) (repC ⟨1, 1, false, 9⟩) rfl rfl rfl (by kernel_rfl) (by kernel_rfl) (by kernel_rfl) (by kernel_rfl) rfl rfl ?_
  (repeat first|refine zo rfl rfl trivial ?_|refine zT rfl rfl rfl ?_)
  refine o_loadA (vs := [I 301, I 3]) rfl (fun j v hv => by rw [Nat.zero_add]; exact h8.cell hv) rfl rfl rfl rfl rfl rfl ?_
  refine o_build [I 301, I 3] rfl rfl rfl rfl rfl rfl rfl ?_
  refine o_eqS [301, 3] [301, 3] rfl rfl rfl (by kernel_rfl) (by kernel_rfl) (by kernel_rfl) rfl rfl rfl rfl ?_
  (repeat first|refine zo rfl rfl trivial ?_|refine zn ?_|refine zr ?_)
  exact ⟨_, rfl, rfl, k017⟩
end Go.Vc
/- what the rows' reading of a struct of ints, of a list of events, and of a row of ints or bools says. -/
namespace Go.Vc
open Go Go.Proofs Go.ChangeShapes
set_option maxRecDepth 10000
theorem bulkS_lenA {H : Type} : ∀ (l : List (DataW H)), l.length ≤ Go.Proofs.YtkgngbpkiklckaaGreatDoor.Rows.uptoBulkAll l
  | [] => by simp [Go.Proofs.YtkgngbpkiklckaaGreatDoor.Rows.uptoBulkAll]
  | d :: r => by
    have ih := bulkS_lenA r
    have h1 : 1 ≤ Go.Proofs.YtkgngbpkiklckaaGreatDoor.Rows.uptoBulk d := by
      cases d with
      | lit l => cases l <;> simp [Go.Proofs.YtkgngbpkiklckaaGreatDoor.Rows.uptoBulk]
      | _ => simp [Go.Proofs.YtkgngbpkiklckaaGreatDoor.Rows.uptoBulk]
    simp only [List.length_cons, Go.Proofs.YtkgngbpkiklckaaGreatDoor.Rows.uptoBulkAll]; omega
theorem bulkS_mem {H : Type} {d : DataW H} : ∀ {l : List (DataW H)}, d ∈ l → Go.Proofs.YtkgngbpkiklckaaGreatDoor.Rows.uptoBulk d ≤ Go.Proofs.YtkgngbpkiklckaaGreatDoor.Rows.uptoBulkAll l
  | [], h => by simp at h
  | x :: r, h => by
    simp only [Go.Proofs.YtkgngbpkiklckaaGreatDoor.Rows.uptoBulkAll]
    rcases List.mem_cons.1 h with rfl | h
    · omega
    · have := bulkS_mem h; omega
theorem bulkS_lits {H : Type} (k : IntKind) (zs : List Int) : Go.Proofs.YtkgngbpkiklckaaGreatDoor.Rows.uptoBulkAll (lits (H := H) k zs) = zs.length := by
  induction zs with
  | nil => rfl
  | cons z r ih => show Go.Proofs.YtkgngbpkiklckaaGreatDoor.Rows.uptoBulk (DataW.lit (.int k z)) + Go.Proofs.YtkgngbpkiklckaaGreatDoor.Rows.uptoBulkAll (lits k r) = _; rw [ih]; simp only [Go.Proofs.YtkgngbpkiklckaaGreatDoor.Rows.uptoBulk, List.length_cons]; omega
/-- one cell that is a slice of integers -/
theorem rdS_row {H : Type} {enc : TypeId × Value → H} {P : Program} {w : World} {base : Nat} {sp : Nat → Bool} {held : Bool} {t e : TypeId} {k : IntKind} {fuel : Nat} {v : Value} {x : DataW H × List MemPlace} (ht : P.underlying t = some (.slice e)) (he : P.underlying e = some (.int k)) (hc : P.cellsOf e = 1)
    (h : DataW.trod enc P w base sp held fuel t [v] = some x) : ∃ a cap, ∃ zs : List Int, v = .slice a zs.length cap ∧ ReadS w a (zs.map (Value.int k)) ∧ (∀ n ∈ zs, (Lit.int k n).wf = true) ∧ zs.length ≤ Go.Proofs.YtkgngbpkiklckaaGreatDoor.Rows.uptoBulk x.1 := by
  rcases open_ints ht he hc h with ⟨hcs, hx⟩ | ⟨a, l, c, zs, hcs, _, hl, hm, hz, hx, hcell, hwz⟩
  · simp at hcs
    exact ⟨none, 0, [], hcs, rfl, by simp, by simp⟩
  · simp at hcs
    have hlz : l ≤ zs.length := by rw [hz]; split <;> omega
    have hlen : (zs.take l).length = l := by rw [List.length_take]; omega
    refine ⟨some a, c, zs.take l, by rw [hlen]; exact hcs, ?_, fun n hn => hwz n (List.mem_of_mem_take hn), ?_⟩
    · intro i y hy
      rw [List.getElem?_map, List.getElem?_take] at hy
      split at hy
      · rename_i hi
        have hi2 : i < zs.length := by omega
        rw [List.getElem?_eq_getElem hi2] at hy
        simp at hy; subst hy
        rw [hcell i hi2, List.getD_eq_getElem?_getD, List.getElem?_eq_getElem hi2]; rfl
      · simp at hy
    · rw [hx]
      simp only [Go.Proofs.YtkgngbpkiklckaaGreatDoor.Rows.uptoBulk, bulkS_lits]; omega
theorem wfI {x : Int} (h : (Lit.int .i64 x).wf = true) : -9223372036854775808 ≤ x ∧ x ≤ 9223372036854775807 := by simpa [Lit.wf, IntKind.min, IntKind.max, IntKind.signed, IntKind.bits] using h
theorem flattenS {α β : Type} {f : α → List β} : ∀ (Cs : List (List β)), (∀ cs ∈ Cs, ∃ a, cs = f a) → ∃ l : List α, Cs = l.map f
  | [], _ => ⟨[], rfl⟩
  | c :: r, h => by
    obtain ⟨a, ha⟩ := h c (by simp)
    obtain ⟨l, hl⟩ := flattenS r (fun cs hcs => h cs (by simp [hcs]))
    exact ⟨a :: l, by rw [ha, hl]; rfl⟩
section
variable {H : Type} {enc : TypeId × Value → H} {w : World} {base : Nat} {sp : Nat → Bool} {held : Bool} {fuel : Nat} {d : DataW H} {ps : List MemPlace}
/-- a list of events -/
theorem rd_evs {a : Option Addr} {len cap : Nat} (h : DataW.trod enc Tryz.prog w base sp held fuel 28 (Value.slice a len cap).cells.toList = some (d, ps)) :
    ∃ xs : List Ev, (ReadS w a (evsC xs) ∧ xs.length = len ∧ len ≤ cap) ∧ xs.length ≤ Go.Proofs.YtkgngbpkiklckaaGreatDoor.Rows.uptoBulk d := by
  obtain ⟨n, Cs, D, h1, h2, h3, h4, h5, hcap, _⟩ := trod_recs (m := 3) Tryz.underlying28 (by kernel_rfl) h
  have hall : Go.Proofs.YtkgngbpkiklckaaGreatDoor.Rows.uptoBulkAll D ≤ Go.Proofs.YtkgngbpkiklckaaGreatDoor.Rows.uptoBulk d := by
    rcases h5 with ⟨e1, e2⟩ | ⟨spp, e1⟩
    · rw [e2]; simp [Go.Proofs.YtkgngbpkiklckaaGreatDoor.Rows.uptoBulkAll]
    · dsimp only at e1
      rw [e1]
      simp only [Go.Proofs.YtkgngbpkiklckaaGreatDoor.Rows.uptoBulk]; omega
  have key : ∀ cs ∈ Cs, ∃ x : Ev, cs = evC x := by
    intro cs hcs
    obtain ⟨i, hi⟩ := List.getElem?_of_mem hcs
    obtain ⟨g1, d', p', g3, g2⟩ := h4 i cs hi
    obtain ⟨xs, m, _, gx, _, g5, g6⟩ := DataW.trod_struct Tryz.underlying86 g2
    match cs, g1 with
    | [c0, c1, c2], _ =>
      have f0 := g6 0 _ rfl
      have f1 := g6 1 _ rfl
      have f2 := g6 2 _ rfl
      have l6 : xs.length = 3 := g5
      rw [List.getElem?_eq_getElem (by omega)] at f0 f1 f2
      obtain ⟨z0, rfl, w0⟩ := trod_int (k := .i64) (by kernel_rfl) f0
      obtain ⟨z1, rfl, w1⟩ := trod_int (k := .i64) (by kernel_rfl) f1
      obtain ⟨z2, rfl, w2⟩ := trod_int (k := .i64) (by kernel_rfl) f2
      exact ⟨⟨z0, z1, z2⟩, rfl⟩
  obtain ⟨xs, hxs⟩ := flattenS (f := evC) Cs key
  have hl : xs.length = len := by rw [← h1, hxs]; simp
  refine ⟨xs, ⟨?_, hl, hcap⟩, ?_⟩
  · rw [hxs] at h3
    unfold evsC
    rw [List.flatMap_def]; exact h3
  · rw [hl, ← h2]
    have := bulkS_lenA D
    omega
/-- a shape -/
theorem rd_shp {cs : Array Value} (h : DataW.trod enc Tryz.prog w base sp held fuel 27 (Value.agg cs).cells.toList = some (d, ps)) :
    ∃ (s : Shp) (pad : Option Addr) (cap : Nat), (cs = ⟨shC s pad cap⟩ ∧ ReadS w pad (s.pa.map I)) ∧ s.pa.length ≤ Go.Proofs.YtkgngbpkiklckaaGreatDoor.Rows.uptoBulk d := by
  have h : DataW.trod enc Tryz.prog w base sp held fuel 27 cs.toList = some (d, ps) := h
  obtain ⟨xs, m, _, gx, g1, g5, g6⟩ := DataW.trod_struct Tryz.underlying27 h
  have gd := congrArg Prod.fst gx
  dsimp only at gd
  obtain ⟨cs⟩ := cs
  have g1 : cs.length = 5 := g1
  match cs, g1 with
  | [c0, c1, c2, c3, c4], _ =>
    have f0 := g6 0 _ rfl
    have f1 := g6 1 _ rfl
    have f2 := g6 2 _ rfl
    have f3 := g6 3 _ rfl
    have f4 := g6 4 _ rfl
    have l6 : xs.length = 5 := g5
    rw [List.getElem?_eq_getElem (by omega)] at f0 f1 f2 f3 f4
    obtain ⟨z0, rfl, w0⟩ := trod_int (k := .i64) (by kernel_rfl) f0
    obtain ⟨z1, rfl, w1⟩ := trod_int (k := .i64) (by kernel_rfl) f1
    obtain ⟨z2, rfl, w2⟩ := trod_int (k := .i64) (by kernel_rfl) f2
    obtain ⟨z3, rfl, w3⟩ := trod_int (k := .i64) (by kernel_rfl) f3
    obtain ⟨a4, c4, z4, rfl, r4, q4, s4⟩ := rdS_row Tryz.underlying25 Tryz.underlying3 (by kernel_rfl) f4
    have m4 : Go.Proofs.YtkgngbpkiklckaaGreatDoor.Rows.uptoBulk xs[4].1 ≤ Go.Proofs.YtkgngbpkiklckaaGreatDoor.Rows.uptoBulkAll (xs.map (·.1)) := bulkS_mem (List.mem_map.2 ⟨_, List.getElem_mem _, rfl⟩)
    refine ⟨⟨z0, z1, z2, z3, z4⟩, a4, c4, ⟨rfl, r4⟩, ?_⟩
    rw [gd]
    simp only [Go.Proofs.YtkgngbpkiklckaaGreatDoor.Rows.uptoBulk]
    omega
end
end Go.Vc
/- what the rows' reading of a question (a tree, a shape, events, names) says. -/
namespace Go.Vc
open Go Go.Proofs Go.ChangeShapes
set_option maxRecDepth 10000
/-- a question as it came in -/
structure AG where
  txt : List UInt8
  l : List QN
  s : Shp
  E : List Ev
  fuel : Int
  fr : List UInt8
  tt : List UInt8
  qad : Option Addr
  qcap : Nat
  pad : Option Addr
  pcap : Nat
  ead : Option Addr
  ecap : Nat
def AG.C (x : AG) : List Value := [S x.txt, .slice x.qad x.l.length x.qcap, I x.s.th, I x.s.va, I x.s.vo, I x.s.lo, .slice x.pad x.s.pa.length x.pcap, .slice x.ead x.E.length x.ecap, I x.fuel, S x.fr, S x.tt]
structure AG.Ok (w : World) (x : AG) : Prop where
  rows : Rows w x.qad x.qcap x.l
  txt : x.txt.length ≤ 1048576
  fr : x.fr.length ≤ 1048576
  tt : x.tt.length ≤ 1048576
  pa : ReadS w x.pad (x.s.pa.map I)
  pal : x.s.pa.length ≤ 1048576
  ev : ReadS w x.ead (evsC x.E)
  evl : x.E.length ≤ 1048576
  evc : x.E.length ≤ x.ecap
  fuel : -9223372036854775808 ≤ x.fuel ∧ x.fuel ≤ 9223372036854775807
section
variable {H : Type} {enc : TypeId × Value → H} {w : World} {base : Nat} {sp : Nat → Bool} {held : Bool} {fuel : Nat} {d : DataW H} {ps : List MemPlace}
theorem trod_isS {P : Program} {t e : TypeId} {v : Value} {x : DataW H × List MemPlace} (ht : P.underlying t = some (.slice e)) (h : DataW.trod enc P w base sp held fuel t [v] = some x) : ∃ a len cap, v = .slice a len cap := by
  rcases Go.Deep.open_slice ht h with ⟨hc, _⟩ | ⟨a', len', cap', mm, n, D, Pl, hc, _⟩
  · simp at hc; exact ⟨_, _, _, hc⟩
  · simp at hc; exact ⟨_, _, _, hc⟩
/-- a row of nodes -/
theorem rd_rowsQ {v : Value} (h : DataW.trod enc Tryz.prog w base sp held fuel 22 [v] = some (d, ps)) :
    ∃ (a : Option Addr) (cap : Nat) (xs : List QN), v = .slice a xs.length cap ∧ xs.length ≤ Go.Proofs.YtkgngbpkiklckaaGreatDoor.Rows.uptoBulk d ∧ ∀ B, Go.Proofs.YtkgngbpkiklckaaGreatDoor.Rows.uptoBulk d ≤ B → B ≤ 1048576 → Rows w a cap xs := by
  obtain ⟨a, len, cap, rfl⟩ := trod_isS Tryz.underlying22 h
  obtain ⟨n, Cs, D, h1, h2, h3, h4, h5, hcap, hcm⟩ := trod_recs (m := 4) Tryz.underlying22 (by kernel_rfl) h
  have hall : Go.Proofs.YtkgngbpkiklckaaGreatDoor.Rows.uptoBulkAll D ≤ Go.Proofs.YtkgngbpkiklckaaGreatDoor.Rows.uptoBulk d := by
    rcases h5 with ⟨e1, e2⟩ | ⟨spp, e1⟩
    · rw [e2]; simp [Go.Proofs.YtkgngbpkiklckaaGreatDoor.Rows.uptoBulkAll]
    · dsimp only at e1
      rw [e1]
      simp only [Go.Proofs.YtkgngbpkiklckaaGreatDoor.Rows.uptoBulk]; omega
  have key : ∀ cs ∈ Cs, ∃ x : QN, cs = qC x ∧ (x.num ≤ 9223372036854775807 ∧ x.name.length ≤ Go.Proofs.YtkgngbpkiklckaaGreatDoor.Rows.uptoBulk d) := by
    intro cs hcs
    obtain ⟨i, hi⟩ := List.getElem?_of_mem hcs
    obtain ⟨g1, d', p', g3, g2⟩ := h4 i cs hi
    obtain ⟨xs, m, _, gx, _, g5, g6⟩ := DataW.trod_struct Tryz.underlying81 g2
    have hd' := bulkS_mem (List.mem_of_getElem? g3)
    have gd := congrArg Prod.fst gx
    dsimp only at gd
    match cs, g1 with
    | [c0, c1, c2, c3], _ =>
      have f0 := g6 0 _ rfl
      have f1 := g6 1 _ rfl
      have f2 := g6 2 _ rfl
      have f3 := g6 3 _ rfl
      have l6 : xs.length = 4 := g5
      rw [List.getElem?_eq_getElem (by omega)] at f0 f1 f2 f3
      obtain ⟨z0, rfl, w0⟩ := trod_int (k := .i64) (by kernel_rfl) f0
      obtain ⟨z1, rfl, w1⟩ := trod_int (k := .i64) (by kernel_rfl) f1
      obtain ⟨z2, rfl, w2⟩ := trod_int (k := .i64) (by kernel_rfl) f2
      obtain ⟨z3, rfl, w3, b3⟩ := trod_str (by kernel_rfl) f3
      have m3 : Go.Proofs.YtkgngbpkiklckaaGreatDoor.Rows.uptoBulk xs[3].1 ≤ Go.Proofs.YtkgngbpkiklckaaGreatDoor.Rows.uptoBulkAll (xs.map (·.1)) := bulkS_mem (List.mem_map.2 ⟨_, List.getElem_mem _, rfl⟩)
      rw [gd] at hd'
      rw [b3] at m3
      simp only [Go.Proofs.YtkgngbpkiklckaaGreatDoor.Rows.uptoBulk] at hd' m3
      exact ⟨⟨z0, z1, z2, z3.data.toList⟩, rfl, (wfI w2).2, by dsimp only; omega⟩
  have flat : ∀ Ds : List (List Value), (∀ cs ∈ Ds, ∃ x : QN, cs = qC x ∧ (x.num ≤ 9223372036854775807 ∧ x.name.length ≤ Go.Proofs.YtkgngbpkiklckaaGreatDoor.Rows.uptoBulk d)) → ∃ l : List QN, Ds = l.map qC ∧ ∀ x ∈ l, (x.num ≤ 9223372036854775807 ∧ x.name.length ≤ Go.Proofs.YtkgngbpkiklckaaGreatDoor.Rows.uptoBulk d) := by
    intro Ds
    induction Ds with
    | nil => intro _; exact ⟨[], rfl, by simp⟩
    | cons c r ih =>
      intro hh
      obtain ⟨x, hx, hp⟩ := hh c (by simp)
      obtain ⟨l, hl, hq⟩ := ih (fun cs hcs => hh cs (by simp [hcs]))
      refine ⟨x :: l, by rw [hx, hl]; rfl, fun y hy => ?_⟩
      rcases List.mem_cons.1 hy with rfl | hy
      · exact hp
      · exact hq y hy
  obtain ⟨xs, hxs, hp⟩ := flat Cs key
  have hl : xs.length = len := by rw [← h1, hxs]; simp
  have hlb : xs.length ≤ Go.Proofs.YtkgngbpkiklckaaGreatDoor.Rows.uptoBulk d := by
    rw [hl, ← h2]
    have := bulkS_lenA D
    omega
  refine ⟨a, cap, xs, by rw [hl], hlb, fun B hB hB2 => ⟨?_, by omega, hcm, by omega, fun x hx => ?_, fun x hx => (hp x hx).1⟩⟩
  · rw [hxs] at h3
    rw [List.flatMap_def]; exact h3
  · have := (hp x hx).2; omega
/-- a question -/
theorem rd_ask {cs : Array Value} (h : DataW.trod enc Tryz.prog w base sp held fuel 30 (Value.agg cs).cells.toList = some (d, ps)) :
    ∃ x : AG, cs = ⟨x.C⟩ ∧ ∀ B, Go.Proofs.YtkgngbpkiklckaaGreatDoor.Rows.uptoBulk d ≤ B → B ≤ 1048576 → AG.Ok w x := by
  have h : DataW.trod enc Tryz.prog w base sp held fuel 30 cs.toList = some (d, ps) := h
  obtain ⟨xs, m, _, gx, g1, g5, g6⟩ := DataW.trod_struct Tryz.underlying30 h
  have gd := congrArg Prod.fst gx
  dsimp only at gd
  obtain ⟨cs⟩ := cs
  have g1 : cs.length = 11 := g1
  match cs, g1 with
  | [c0, c1, c2, c3, c4, c5, c6, c7, c8, c9, c10], _ =>
    have f0 := g6 0 _ rfl
    have f1 := g6 1 _ rfl
    have f2 := g6 2 _ rfl
    have f3 := g6 3 _ rfl
    have f4 := g6 4 _ rfl
    have f5 := g6 5 _ rfl
    have f6 := g6 6 _ rfl
    have l6 : xs.length = 7 := g5
    have mm : ∀ i (hi : i < xs.length), Go.Proofs.YtkgngbpkiklckaaGreatDoor.Rows.uptoBulk xs[i].1 ≤ Go.Proofs.YtkgngbpkiklckaaGreatDoor.Rows.uptoBulkAll (xs.map (·.1)) := fun i hi => bulkS_mem (List.mem_map.2 ⟨_, List.getElem_mem hi, rfl⟩)
    rw [List.getElem?_eq_getElem (by omega)] at f0 f1 f2 f3 f4 f5 f6
    obtain ⟨z0, rfl, w0, b0⟩ := trod_str (by kernel_rfl) f0
    have f1' : DataW.trod enc Tryz.prog w base sp held m 24 [c1] = some xs[1] := f1
    obtain ⟨ys, m', _, gy, _, k5, k6⟩ := DataW.trod_struct Tryz.underlying24 f1'
    have q0 := k6 0 _ rfl
    have k5 : ys.length = 1 := k5
    rw [List.getElem?_eq_getElem (by omega)] at q0
    have q0' : DataW.trod enc Tryz.prog w base sp held m' 22 [c1] = some (ys[0].1, ys[0].2) := q0
    obtain ⟨qad, qcap, l, rfl, lb, hR⟩ := rd_rowsQ q0'
    have my : Go.Proofs.YtkgngbpkiklckaaGreatDoor.Rows.uptoBulk ys[0].1 ≤ Go.Proofs.YtkgngbpkiklckaaGreatDoor.Rows.uptoBulkAll (ys.map (·.1)) := bulkS_mem (List.mem_map.2 ⟨_, List.getElem_mem _, rfl⟩)
    have gdy := congrArg Prod.fst gy
    dsimp only at gdy
    have f2' : DataW.trod enc Tryz.prog w base sp held m 27 (Value.agg ⟨[c2, c3, c4, c5, c6]⟩).cells.toList = some (xs[2].1, xs[2].2) := f2
    obtain ⟨s, pad, pcap, ⟨hs, hpa⟩, hpl⟩ := rd_shp f2'
    simp only [shC, Array.mk.injEq, List.cons.injEq, and_true] at hs
    obtain ⟨rfl, rfl, rfl, rfl, rfl⟩ := hs
    have f3' : DataW.trod enc Tryz.prog w base sp held m 28 [c7] = some (xs[3].1, xs[3].2) := f3
    obtain ⟨ead, elen, ecap, rfl⟩ := trod_isS Tryz.underlying28 f3'
    obtain ⟨E, ⟨hE, rfl, hec⟩, hel⟩ := rd_evs (a := ead) (len := elen) (cap := ecap) f3'
    obtain ⟨z4, rfl, w4⟩ := trod_int (k := .i64) (by kernel_rfl) f4
    obtain ⟨z5, rfl, w5, b5⟩ := trod_str (by kernel_rfl) f5
    obtain ⟨z6, rfl, w6, b6⟩ := trod_str (by kernel_rfl) f6
    have n0 := mm 0 (by omega)
    have n1 := mm 1 (by omega)
    have n2 := mm 2 (by omega)
    have n3 := mm 3 (by omega)
    have n5 := mm 5 (by omega)
    have n6 := mm 6 (by omega)
    rw [b0] at n0
    rw [gdy] at n1
    rw [b5] at n5
    rw [b6] at n6
    simp only [Go.Proofs.YtkgngbpkiklckaaGreatDoor.Rows.uptoBulk] at n0 n1 n5 n6
    refine ⟨⟨z0.data.toList, l, s, E, z4, z5.data.toList, z6.data.toList, qad, qcap, pad, pcap, ead, ecap⟩, rfl, fun B hB hB2 => ?_⟩
    rw [gd] at hB
    simp only [Go.Proofs.YtkgngbpkiklckaaGreatDoor.Rows.uptoBulk] at hB
    exact ⟨hR 1048576 (by omega) (Nat.le_refl _), by dsimp only; omega, by dsimp only; omega, by dsimp only; omega, hpa, by dsimp only; omega, hE, by dsimp only; omega, hec, wfI w4⟩
end
end Go.Vc
/- Query: what fuel does; few; loads out of a question. -/
namespace Go.Vc
open Go Go.Proofs
set_option maxRecDepth 20000
variable {w : World}
structure FuelL (r : Rep) (fuel : Int) (b c d : Rep × Int) : Prop where
  s1 : 1 ≤ r.steps
  s2 : r.steps ≤ fuel
  tr : r.sort = 2 → r.num = 0
  nu : r.sort = 1 → r.truth = false
  st : r.steps ≤ 67108864
  b : b = (r, 0)
  c : c = (rep0, 306)
  d : d = (r, 0)
/-- a part of a block -/
theorem Blk.sub {b : Nat} {vs : List Value} {T : TypeId} (h : Blk w b vs T) (o : Nat) (us : List Value) (hu : (vs.drop o).take us.length = us) : ∀ j v, us[j]? = some v → w.cell? ⟨b, o + j, none⟩ = some v := by
  intro j v hv
  refine h.cell ?_
  rw [← hu, List.getElem?_take] at hv
  split at hv
  · rwa [List.getElem?_drop] at hv
  · cases hv
section
variable {P : Program} {n : Nat} {e : Env} {K : EPost} {all : List Oper} {G : List Nat} {ro : Ro} {dst : Option Tmp} {ty : TypeId} {pos : String} {after : Array Edge} {g : Option (Nat × Bool)} {l : List Oper}
/-- one plain operation alone whose truth is known -/
theorem o_pureB {op : Op} {c : Bool} (b : Bool) (hp : pureOp P e op = some (none, .bool c)) (hc : c = b) (hd : dOk n dst = true) (hm : may all G e g = some true) (k : Ops ro P n all G K l (put e dst (.bool b)) w) : Ops ro P n all G K (⟨dst, op, ty, pos, after, g⟩ :: l) e w :=
  o_pure1 (by rw [hp, hc]) hd hm k
end
end Go.Vc
/- Query: QueryFuel. -/
namespace Go.Vc
open Go Go.Proofs
set_option maxRecDepth 20000
variable {w : World}
theorem AG.Ok.kp {w' : World} {x : AG} (h : x.Ok w) (hk : Kp [] w w') : x.Ok w' := ⟨h.rows.kp hk (by simp), h.txt, h.fr, h.tt, h.pa.kp hk (by simp), h.pal, h.ev.kp hk (by simp), h.evl, h.evc, h.fuel⟩
end Go.Vc
/- Query: a name in another one's place, in plain Lean (no program in sight). -/
namespace Go.Vc
open Go
variable {a c : List UInt8}
/-- a name, one in another one's place -/
def rn (a c n : List UInt8) : List UInt8 := if n = a then c else n
def rnN (a c : List UInt8) (x : QN) : QN := if x.name = a then { x with name := c } else x
def rnT (a c : List UInt8) : QT → QT
  | .n0 op num name => .n0 op num (rn a c name)
  | .n1 op num name x => .n1 op num (rn a c name) (rnT a c x)
  | .n2 op num name x y => .n2 op num (rn a c name) (rnT a c x) (rnT a c y)
/-- a name stands nowhere in a tree -/
def freeT (c : List UInt8) : QT → Prop
  | .n0 _ _ name => name ≠ c
  | .n1 _ _ name x => name ≠ c ∧ freeT c x
  | .n2 _ _ name x y => name ≠ c ∧ freeT c x ∧ freeT c y
/-- names in a row -/
def hasM (l : List QN) (n : List UInt8) : Bool := l.any fun x => decide (x.name = n)
end Go.Vc
