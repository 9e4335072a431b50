/- Query: has, Same; a renamed question is asked. -/
import Derived.Test.YtkgngbpkiklckaaGreatDoorQClQBack45
namespace Go.Vc
open Go Go.Proofs
set_option maxRecDepth 20000
variable {w : World}
theorem eqMix_node (a b : QN) : eqMix (qC a) (qC b) = decide (a = b) := by
  obtain ⟨a1, a2, a3, a4⟩ := a
  obtain ⟨b1, b2, b3, b4⟩ := b
  have hS : eqVal (S a4) (S b4) = decide (a4 = b4) := by
    unfold eqVal
    simp only [ByteArray.toList_eq]
    rw [Bool.eq_iff_iff, beq_iff_eq, decide_eq_true_eq]
  simp only [qC, eqMix, QN.mk.injEq, hS]
  simp only [eqVal, beq_iff_eq, decide_eq_true_eq]
  by_cases h1 : a1 = b1 <;> by_cases h2 : a2 = b2 <;> by_cases h3 : a3 = b3 <;> by_cases h4 : a4 = b4 <;> simp [h1, h2, h3, h4]
/-- a node's cells -/
theorem Rows.cellN {ad : Option Addr} {cap : Nat} {l : List QN} (h : Rows w ad cap l) {i : Nat} {x : QN} (hx : l[i]? = some x) : ∃ b off, ad = some ⟨b, off, none⟩ ∧ b < w.heap.size ∧ ∀ j v, (qC x)[j]? = some v → w.cell? ⟨b, off + i * 4 + j, none⟩ = some v := by
  have hi := (List.getElem?_eq_some_iff.1 hx).1
  have hfl : (l.flatMap qC).length = l.length * 4 := by
    clear h hx hi
    induction l with
    | nil => rfl
    | cons y r ih => rw [List.flatMap_cons, List.length_append, ih, List.length_cons]; simp [qC]; omega
  obtain ⟨b, off, rfl, hbl, hcell⟩ := h.read.at_ (by rw [hfl]; omega)
  exact ⟨b, off, rfl, hbl, fun j v hv => by rw [Nat.add_assoc]; exact hcell _ _ (flC_get (f := qC) (m := 4) (fun _ => rfl) hx hv)⟩
set_option maxHeartbeats 6400000 in
theorem Same30_ret {l m : List QN} {ad bd : Option Addr} {cap cap' : Nat} (hR : Rows w ad cap l) (hM : Rows w bd cap' m) :
    Ret Tryz.prog 15 [.agg ⟨[.slice ad l.length cap]⟩, .agg ⟨[.slice bd m.length cap']⟩] w (fun v w' => v = .bool (decide (l = m)) ∧ Kp [] w w') := by
  have hm := hR.max_
  have hcl := hR.cap_
  have hm' := hM.max_
  have hcl' := hM.cap_
  refine enter Tryz.call15 Tryz.func15 rfl rfl rfl rfl ?_
  (repeat first|refine zA ?_|refine zg ?_)
  refine o_box rfl rfl rfl ?_
  intro b w1 hb hu1
  have k1 : Kp [] w w1 := hu1.kp [] (.inr (by omega))
  refine o_box rfl rfl rfl ?_
  intro c w2 hc hu2
  have k2 : Kp [] w1 w2 := hu2.kp [] (.inr (by omega))
  have hb2 : Blk w2 b [.slice ad l.length cap] 24 := k2.blk (by simp) hu1.blk
  have hc2 : Blk w2 c [.slice bd m.length cap'] 24 := hu2.blk
  have k02 := k1.trans k2
  clear hu1 hu2 k1 k2
  (repeat first|refine zA ?_|refine zB ?_|refine zg ?_|refine zo rfl rfl trivial ?_|refine zn ?_|refine o_load rfl hb2 rfl rfl rfl rfl rfl ?_)
  (repeat first|refine zo rfl rfl trivial ?_|refine zn ?_|refine o_load rfl hc2 rfl rfl rfl rfl rfl ?_)
  refine r_ifn rfl (fun hne => ?_) (fun heq => ?_)
  · (repeat first|refine zA ?_|refine zg ?_|refine zo rfl rfl trivial ?_|refine zn ?_|refine zr ?_)
    exact ⟨_, rfl, by rw [decide_eq_false]; rintro rfl; exact hne rfl, k02⟩
  have hlen : l.length = m.length := by omega
  (repeat first|refine zA ?_|refine zB ?_|refine zg ?_|refine zo rfl rfl trivial ?_|refine zn ?_|refine zb ?_|refine zk ?_)
  refine r_loop (α := Nat) [2, 3, 5] (fun i => [ptr b, ptr c, I i]) (fun i W => i ≤ l.length ∧ Kp [] w2 W ∧ l.take i = m.take i) (fun i => l.length - i) 0 rfl ⟨Nat.zero_le _, Kp.refl _ _, rfl⟩ ?_
  rintro i e W ⟨hi, kW, hn⟩
  have hbW := kW.blk (by simp) hb2
  have hcW := kW.blk (by simp) hc2
  (repeat first|refine zA ?_|refine zB ?_|refine zg ?_|refine zo rfl rfl trivial ?_|refine zn ?_|refine o_load rfl hbW rfl rfl rfl rfl rfl ?_)
  refine r_if rfl (fun hc => ?_) (fun hc => ?_)
  · have hi2 : i < l.length := by omega
    obtain ⟨x, hx⟩ : ∃ x, l[i]? = some x := ⟨_, List.getElem?_eq_getElem hi2⟩
    obtain ⟨y, hy⟩ : ∃ y, m[i]? = some y := ⟨_, List.getElem?_eq_getElem (by omega)⟩
    obtain ⟨b0, o0, rfl, lt0, cell0⟩ := (hR.kp (k02.trans kW) (by simp)).cellN hx
    obtain ⟨b1, o1, rfl, lt1, cell1⟩ := (hM.kp (k02.trans kW) (by simp)).cellN hy
    have htl : l.take (i + 1) = l.take i ++ [x] := by rw [List.take_add_one, hx]; rfl
    have htm : m.take (i + 1) = m.take i ++ [y] := by rw [List.take_add_one, hy]; rfl
    (repeat first|refine zC ?_|refine zb ?_|refine zk ?_)
    refine r_seq ?_
    refine r_cut (α := Unit) [2, 3, 5, 30] (fun _ => [ptr b, ptr c, I i, .bool (!decide (x = y))]) (fun _ W' => Kp [] W W') ?_ ?_
    · refine r_quietK follows_mixed (by kernel_rfl) ?_
      (repeat first|refine yo rfl rfl (by first|exact trivial|(simp only[AllP];omega)) ?_|refine q_load rfl (fun _ hs => (Kp.blk hs (by simp) hbW).cell rfl) rfl rfl rfl rfl ?_)
      refine q_loadA (vs := qC x) rfl (fun w' h' j v hv => by
        rw [toNat_nat, ← cell0 j v hv]
        exact World.cell?_of_block (h'.at_ b0 lt0 (by simp))) rfl rfl rfl rfl rfl rfl ?_
      (repeat first|refine yo rfl rfl (by first|exact trivial|(simp only[AllP];omega)) ?_|refine q_load rfl (fun _ hs => (Kp.blk hs (by simp) hcW).cell rfl) rfl rfl rfl rfl ?_)
      refine q_loadA (vs := qC y) rfl (fun w' h' j v hv => by
        rw [toNat_nat, ← cell1 j v hv]
        exact World.cell?_of_block (h'.at_ b1 lt1 (by simp))) rfl rfl rfl rfl rfl rfl ?_
      refine q_neqX (qC x) (qC y) rfl rfl rfl (by kernel_rfl) (by kernel_rfl) rfl rfl rfl rfl ?_
      rw [eqMix_node]
      (repeat refine yn ?_)
      intro w' hs
      exact ⟨(), rfl, hs⟩
    rintro _ e2 w3 k3
    refine r_ifn rfl (fun h => ?_) (fun h => ?_)
    · (repeat first|refine zA ?_|refine zg ?_|refine zo rfl rfl trivial ?_|refine zn ?_|refine zr ?_)
      refine ⟨_, rfl, ?_, (k02.trans kW).trans k3⟩
      rw [decide_eq_false]
      rintro rfl
      rw [hx] at hy
      exact h (Option.some.inj hy)
    · (repeat first|refine zg ?_|refine zo rfl rfl (by first|exact trivial|(simp only[AllP];omega)) ?_|refine zn ?_|refine zk ?_)
      exact ⟨i + 1, rfl, ⟨by omega, kW.trans k3, by rw [htl, htm, hn, h]⟩, by omega⟩
  · have : i = l.length := by omega
    subst this
    rw [List.take_length, hlen, List.take_length] at hn
    (repeat first|refine zA ?_|refine zg ?_|refine zo rfl rfl trivial ?_|refine zn ?_|refine ze rfl ?_|refine zr ?_)
    exact ⟨_, rfl, by rw [decide_eq_true hn], k02.trans kW⟩
end Go.Vc
/- Query: QueryRenames. -/
namespace Go.Vc
open Go Go.Proofs
set_option maxRecDepth 20000
variable {w : World}
end Go.Vc
/- Query: lent. -/
namespace Go.Vc
open Go Go.Proofs
set_option maxRecDepth 20000
variable {w : World}
/-- the marks behind a lent tree -/
def mkN (i : Nat) : QN := ⟨0, -100 - (i : Int), 0, []⟩
def marksN (i : Nat) : List QN := (List.range i).map mkN
theorem marksN_succ (i : Nat) : marksN (i + 1) = marksN i ++ [mkN i] := by unfold marksN; rw [List.range_succ, List.map_append]; rfl
theorem qC_one {l : List QN} : ∀ v ∈ l.flatMap qC, v.oneCell' = true := fun v hv => by
  obtain ⟨x, _, hx⟩ := List.mem_flatMap.1 hv
  simp [qC] at hx
  rcases hx with rfl | rfl | rfl | rfl <;> rfl
/-- a row's beginning -/
theorem OwnS.rowsP {ad : Option Addr} {cap : Nat} {l m : List QN} (h : OwnS w 81 4 ad (l.length + m.length) cap ((l ++ m).flatMap qC)) (hl : l.length ≤ 1048576) (hnm : ∀ x ∈ l, x.name.length ≤ 9223372036854775806) (hnu : ∀ x ∈ l, x.num ≤ 9223372036854775807) : Rows w ad cap l := by
  have hcap : cap ≤ maxLen := by
    obtain ⟨_, h⟩ := h
    cases ad with
    | none => obtain ⟨_, h⟩ := h; rw [h]; exact Nat.zero_le _
    | some a => obtain ⟨_, _, _, h, _⟩ := h; exact h
  simp only [maxLen] at hcap
  have hle := h.le_cap
  refine ⟨?_, by omega, hcap, hl, hnm, hnu⟩
  have hr := h.readN
  rw [List.flatMap_append] at hr
  cases ad with
  | none =>
    have hr : l.flatMap qC ++ m.flatMap qC = [] := hr
    exact (List.append_eq_nil_iff.1 hr).1
  | some a =>
    intro i v hv
    exact hr i v (by rw [List.getElem?_append_left (List.getElem?_eq_some_iff.1 hv).1]; exact hv)
set_option maxHeartbeats 6400000 in
theorem lent_ret {l : List QN} {ad : Option Addr} {cap : Nat} (hR : Rows w ad cap l) :
    Ret Tryz.prog 12 [.agg ⟨[.slice ad l.length cap]⟩] w (fun v w' => ∃ ad' cap', v = .agg ⟨[.slice ad' l.length cap']⟩ ∧ OwnS w' 81 4 ad' (l.length + 70) cap' ((l ++ marksN 70).flatMap qC) ∧ Kp [] w w' ∧ ∀ b, b ∈ blkOf ad' → w.heap.size ≤ b) := by
  have hm := hR.max_
  have hcl := hR.cap_
  have hle := hR.len
  have hlen := rows_cells_len l
  refine enterC Tryz.call12 Tryz.func12 rfl rfl rfl rfl ?_
  (repeat first|refine zA ?_|refine zg ?_)
  refine o_box rfl rfl rfl ?_
  intro b1 w1 e1 hu1
  have k1 : Kp [] w w1 := hu1.kp [] (.inr (by omega))
  refine o_alloc rfl rfl rfl rfl ?_
  intro b2 w2 e2 hu2
  have k2 : Kp [] w1 w2 := hu2.kp [] (.inr (by omega))
  have g1 : Blk w2 b1 [.slice ad l.length cap] 24 := k2.blk (by simp) hu1.blk
  have g2 : Blk w2 b2 [.slice none 0 0] 24 := hu2.blk
  have z12 : b1 ≠ b2 := by have := hu1.lt; omega
  have k02 := k1.trans k2
  have y1 := k1.size
  have n2 : w.heap.size ≤ b2 := by omega
  clear hu1 hu2
  (repeat first|refine zA ?_|refine zg ?_|refine zn ?_)
  refine o_buildSlice0 rfl rfl rfl rfl ?_
  intro b w3 hb hu3
  have k3 : Kp [] w2 w3 := hu3.kp [] (.inr (by omega))
  have ho3 : OwnS w3 81 4 (some ⟨b, 0, none⟩) 0 0 [] := ⟨rfl, rfl, rfl, Nat.le_refl _, by simp [maxLen], [], hu3.blk, rfl⟩
  have g1 := k3.blk (by simp) g1
  have g2 := k3.blk (by simp) g2
  have k03 := k02.trans k3
  have y2 := k02.size
  clear hu3
  (repeat first|refine zo rfl rfl trivial ?_|refine o_load rfl g1 rfl rfl rfl rfl rfl ?_)
  refine o_appendR (k := 0) (l.flatMap qC) rfl rfl ho3 (hR.read.kp k03 (by simp)) rfl rfl rfl (by decide) hlen qC_one (by simp only [maxLen]; omega) (by omega) rfl rfl ?_
  intro ad4 cap4 w4 ho4 k4 hn4
  rw [Nat.zero_add] at ho4 ⊢
  rw [List.nil_append] at ho4
  have hfr : ∀ c, c ∈ blkOf (some (⟨b, 0, none⟩ : Addr)) → w2.heap.size ≤ c := fun c hc => by simp [blkOf] at hc; omega
  have new4 : ∀ c, c ∈ blkOf ad4 → w2.heap.size ≤ c := fun c hc => by
    have := k3.size
    rcases hn4 c hc with h | h
    · exact hfr c h
    · omega
  have k24 : Kp [] w2 w4 := k3.since k4 hfr
  clear hn4 ho3 k4 hfr k3 k03 hb g1 g2
  have h1' : Blk w2 b1 [.slice ad l.length cap] 24 := by assumption
  have h2' : Blk w2 b2 [.slice none 0 0] 24 := by assumption
  have fin : ∀ {e : Env} {W : World} {ad : Option Addr} {n cap : Nat}, e 2 = ptr b2 → Blk W b2 [.slice ad n cap] 24 → resC Tryz.prog e W [.cell 2 24] [.agg ⟨[.slice ad n cap]⟩] := fun h1 h2 => ⟨⟨_, h1, run_loadB h2 rfl rfl rfl rfl⟩, trivial⟩
  (repeat first|refine zA ?_|refine zB ?_|refine zg ?_|refine zo rfl rfl trivial ?_|refine zn ?_|refine zb ?_)
  refine r_loop (α := Nat × Option Addr × Nat) [1, 2, 3, 4] (fun y => [ptr b1, ptr b2, .slice y.2.1 (l.length + y.1) y.2.2, I y.1]) (fun y W => y.1 ≤ 70 ∧ OwnS W 81 4 y.2.1 (l.length + y.1) y.2.2 ((l ++ marksN y.1).flatMap qC) ∧ Kp [] w2 W ∧ ∀ c, c ∈ blkOf y.2.1 → w2.heap.size ≤ c) (fun y => 70 - y.1) (0, ad4, cap4) rfl ⟨Nat.zero_le _, by simpa [marksN] using ho4, k24, new4⟩ ?_
  rintro ⟨i, iad, icap⟩ e W ⟨hi, ho, kW, hnew⟩
  dsimp only at hi ho hnew ⊢
  (repeat first|refine zA ?_|refine zB ?_|refine zg ?_|refine zo rfl rfl trivial ?_|refine zn ?_)
  refine r_if rfl (fun hc => ?_) (fun hc => ?_)
  · have hi2 : i < 70 := by omega
    (repeat first|refine zC ?_|refine zg ?_|refine zo rfl rfl (by first|exact trivial|(simp only[AllP];omega)) ?_|refine zb ?_|refine zk ?_)
    refine o_build (qC (mkN i)) rfl rfl rfl rfl rfl rfl rfl ?_
    refine o_buildSliceN (qC (mkN i)) rfl rfl rfl (by kernel_rfl) rfl rfl rfl rfl ?_
    intro bn w5 hbn hu5
    have k5 : Kp [] W w5 := hu5.kp [] (.inr (by omega))
    have yW := kW.size
    refine o_appendR (k := l.length + i) (qC (mkN i)) rfl rfl (ho.kp k5 (by simp)) (ReadS.blk hu5.blk) rfl rfl rfl (by decide) rfl (fun v hv => qC_one (l := [mkN i]) v (by simpa using hv)) (by simp only [maxLen]; omega) (by omega) rfl rfl ?_
    intro ad6 cap6 w6 ho6 k6 hn6
    (repeat first|refine zg ?_|refine zo rfl rfl (by first|exact trivial|(simp only[AllP];omega)) ?_|refine zn ?_)
    refine ⟨(i + 1, ad6, cap6), rfl, ⟨by dsimp only; omega, ?_, (kW.trans k5).since k6 hnew, fun c hc => ?_⟩, by dsimp only; omega⟩
    · dsimp only
      rw [marksN_succ, ← List.append_assoc, List.flatMap_append]
      simpa [Nat.add_assoc] using ho6
    · have := k5.size
      rcases hn6 c hc with h | h
      · exact hnew c h
      · omega
  · obtain rfl : i = 70 := by omega
    have g1 := kW.blk (by simp) h1'
    have g2 := kW.blk (by simp) h2'
    have hle2 := ho.le_cap
    (repeat first|refine zA ?_|refine zg ?_|refine zo rfl rfl trivial ?_|refine ze rfl ?_)
    refine o_load rfl g1 (v := .slice ad l.length cap) rfl rfl rfl rfl rfl ?_
    (repeat refine zo rfl rfl (by first|exact trivial|(simp only[AllP];omega)) ?_)
    refine o_build [.slice iad l.length icap] rfl rfl rfl rfl rfl rfl rfl ?_
    refine o_storeA (b := b2) (cs := [.slice iad l.length icap]) rfl g2 (Nat.le_refl _) rfl (by simp [Value.oneCell']) rfl rfl rfl rfl ?_
    intro w7 hu7
    have hne : ∀ c, c ∈ blkOf iad → c ∉ [b2] := fun c hc h => by
      have := hnew c hc
      have := h2'.lt
      simp at h; omega
    have k7 : Kp [b2] W w7 := hu7.kp [b2] (.inl (by simp))
    (repeat first|refine zn ?_|refine zr ?_)
    refine ⟨_, fin rfl hu7.blk, iad, icap, rfl, ho.kp k7 hne, (k02.trans kW).since k7 (by simpa using n2), fun c hc => ?_⟩
    have := hnew c hc
    omega
end Go.Vc
