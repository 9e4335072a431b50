/- LocksetPlays: lists. -/
import Derived.Test.YtkgjibhbhddckaaDoorQClKPlays43
namespace Go.Vc
open Go Go.Proofs
set_option maxRecDepth 10000
variable {w : World}
theorem OwnS.recB {α : Type} {f : α → List Value} {m : Nat} {T : TypeId} {ad : Option Addr} {cap n : Nat} {l : List α} (h : OwnS w T m ad n cap (l.flatMap f)) (hn : l.length = n) (hf : ∀ x, (f x).length = m) (h0 : 0 < m) {i : Nat} {x : α} (hx : l[i]? = some x) (j : Nat) (v : Value) (y : α) (hj : j < m) (hy : f y = (f x).set j v) :
    ∃ b L, ad = some ⟨b, 0, none⟩ ∧ Blk w b L T ∧ i * m + j < L.length ∧ ∀ w', Upd w b (.cells ⟨L.set (i * m + j) v⟩ T (0, 0)) w' → OwnS w' T m ad n cap ((l.set i y).flatMap f) := by
  subst hn
  have hi := (List.getElem?_eq_some_iff.1 hx).1
  obtain ⟨b, L, h1, h2, h3, h4, h5⟩ := h.rec hf h0 hi
  refine ⟨b, L, h1, h2, by omega, fun w' hu => h5 y w' ?_⟩
  rw [hy, set_many_cell L (h4 x hx) (by rw [hf]; omega) (by rw [hf]; omega)]
  exact hu
def rqC (Q : List RQ) : List Value := Q.map fun z => lgV z.x
/-- what the first rows hold is overwritten -/
def OvTo (Q : List RQ) (i j : Nat) : Prop := ∀ (q : Nat) z, Q[q]? = some z → (z.y = z.x ∧ z.ms = z.rs) ∧ (q < i → ∀ v ∈ z.rs, v = -5 - q) ∧ (q = i → ∀ (m : Nat) v, m < j → z.rs[m]? = some v → v = -5 - q)
theorem OvTo.step {Q : List RQ} {i j : Nat} {z : RQ} (h : OvTo Q i j) (hz : Q[i]? = some z) : OvTo (Q.set i { z with rs := z.rs.set j (-5 - i), ms := z.rs.set j (-5 - i) }) i (j + 1) := by
  intro q u hu
  rcases setR_old hu with ⟨rfl, rfl⟩ | ⟨hq, hu⟩
  · refine ⟨⟨(h q z hz).1.1, rfl⟩, fun c => by omega, fun _ m v hm hv => ?_⟩
    dsimp only at hv
    rw [List.getElem?_set] at hv
    by_cases c : j = m
    · rw [if_pos c] at hv
      split at hv
      · exact (Option.some.inj hv).symm
      · cases hv
    · rw [if_neg c] at hv
      exact (h q z hz).2.2 rfl m v (by omega) hv
  · obtain ⟨h1, h2, h3⟩ := h q u hu
    exact ⟨h1, h2, fun c => absurd c hq⟩
theorem OvTo.next {Q : List RQ} {i j : Nat} {z : RQ} (h : OvTo Q i j) (hz : Q[i]? = some z) (hj : z.rs.length ≤ j) : OvTo Q (i + 1) 0 := by
  intro q u hu
  obtain ⟨h1, h2, h3⟩ := h q u hu
  refine ⟨h1, fun c v hv => ?_, fun _ m v hm => by omega⟩
  by_cases e : q = i
  · subst e
    rw [hz] at hu
    have hu := Option.some.inj hu
    subst hu
    obtain ⟨m, hm⟩ := List.getElem?_of_mem hv
    exact h3 rfl m v (by have := (List.getElem?_eq_some_iff.1 hm).1; omega) hm
  · exact h2 (by omega) v hv
theorem rqC_set {Q : List RQ} {i : Nat} {z z' : RQ} (hz : Q[i]? = some z) (hx : z'.x = z.x) : rqC (Q.set i z') = rqC Q := by
  unfold rqC
  apply List.ext_getElem?
  intro k
  rw [List.getElem?_map, List.getElem?_map, List.getElem?_set]
  by_cases c : i = k
  · subst c
    rw [if_pos rfl, hz]
    split
    · simp [hx]
    · have := (List.getElem?_eq_some_iff.1 hz).1; omega
  · rw [if_neg c]
/-- the first rows have grown -/
def GrTo (Q : List RQ) (i j : Nat) : Prop := ∀ (q : Nat) z, Q[q]? = some z → (∀ v ∈ z.rs, v = -5 - q) ∧ (∀ v ∈ z.ms, v = -5 - q) ∧ (i < q → z.y = z.x) ∧ (q < i → z.y.n = z.x.n + 70) ∧ (q = i → z.y.n = z.x.n + j ∧ (j = 0 → z.y = z.x))
theorem OvTo.grow {Q : List RQ} (h : OvTo Q 6 0) (hl : Q.length = 6) : GrTo Q 0 0 := by
  intro q z hz
  have hq : q < 6 := by have := (List.getElem?_eq_some_iff.1 hz).1; omega
  obtain ⟨h1, h2, _⟩ := h q z hz
  exact ⟨h2 hq, by rw [h1.2]; exact h2 hq, fun _ => h1.1, fun c => by omega, fun _ => ⟨by rw [h1.1]; rfl, fun _ => h1.1⟩⟩
theorem GrTo.step {Q : List RQ} {i j : Nat} {z : RQ} (h : GrTo Q i j) (hz : Q[i]? = some z) (ad' : Option Addr) (cap' : Nat) : GrTo (Q.set i { z with y := ⟨ad', z.y.n + 1, cap'⟩, ms := z.ms ++ [-5 - (i : Int)] }) i (j + 1) := by
  intro q u hu
  rcases setR_old hu with ⟨rfl, rfl⟩ | ⟨hq, hu⟩
  · obtain ⟨h1, h2, _, _, h5⟩ := h q z hz
    refine ⟨h1, fun v hv => ?_, fun c => by omega, fun c => by omega, fun _ => ⟨by dsimp only; rw [(h5 rfl).1]; omega, fun c => by omega⟩⟩
    rcases List.mem_append.1 hv with hv | hv
    · exact h2 v hv
    · simpa using hv
  · obtain ⟨h1, h2, h3, h4, h5⟩ := h q u hu
    exact ⟨h1, h2, h3, h4, fun c => absurd c hq⟩
theorem GrTo.next {Q : List RQ} {i : Nat} (h : GrTo Q i 70) : GrTo Q (i + 1) 0 := by
  intro q u hu
  obtain ⟨h1, h2, h3, h4, h5⟩ := h q u hu
  refine ⟨h1, h2, fun c => h3 (by omega), fun c => ?_, fun c => ⟨by rw [h3 (by omega)]; rfl, fun _ => h3 (by omega)⟩⟩
  by_cases e : q = i
  · exact (h5 e).1
  · exact h4 (by omega)
theorem fI_get {l : List Int} {j : Nat} {v : Int} (h : l[j]? = some v) : (l.flatMap fI)[j]? = some (I v) := by
  rw [← List.map_eq_flatMap, List.getElem?_map, h]; rfl
def moC (Q : List RQ) (i : Nat) : List Value := (Q.take i).map fun z => lgV z.y
theorem moC_succ {Q : List RQ} {i : Nat} {z : RQ} (hz : Q[i]? = some z) : moC Q (i + 1) = moC Q i ++ [lgV z.y] := by
  unfold moC
  rw [List.take_add_one, hz, Option.toList_some, List.map_append]; rfl
theorem moC_set {Q : List RQ} {i : Nat} {z' : RQ} : moC (Q.set i z') i = moC Q i := by
  unfold moC
  congr 1
  apply List.ext_getElem?
  intro k
  rw [List.getElem?_take, List.getElem?_take]
  split
  · rw [List.getElem?_set_ne (by omega)]
  · rfl
section
variable {s : Shp} {o : Option PG}
set_option maxHeartbeats 25600000 in
theorem lists23_ret (h : POk w s o) (n : Int) (hb : (tHeld o n).length ≤ 4096 ∧ ((tKeeps o n).getD []).length ≤ 4096 ∧ (tView s o n).L.length ≤ 4096) : Ret Tryd.prog 20 [kV o, rV o, I n] w (fun v w' => v = .bool true ∧ Kp [] w w') := by
  refine enter Tryd.call20 Tryd.func20 rfl rfl rfl rfl ?_
  (repeat first|refine zA ?_|refine zg ?_|refine zo rfl rfl trivial ?_|refine zn ?_)
  refine o_call (sKHeld h n) rfl rfl rfl ?_
  rintro v w1 ⟨a1, c1, rfl, n1⟩
  have h1 := h.kp0 n1.kp
  have i1 := (Inv6.nil w w w.heap.size).snoc (Nat.le_refl _) n1
  have k1 := n1.kp
  (repeat first|refine zA ?_|refine zg ?_|refine zo rfl rfl trivial ?_|refine zn ?_)
  refine o_call (sKKeeps h1 n) rfl rfl rfl ?_
  rintro v w2 ⟨a2, c2, rfl, n2⟩
  have h2 := h1.kp0 n2.kp
  have i2 := i1.snoc k1.size n2
  have k2 := k1.trans n2.kp
  (repeat first|refine zA ?_|refine zg ?_|refine zo rfl rfl trivial ?_|refine zn ?_)
  refine o_call (sKView h2 n) rfl rfl rfl ?_
  rintro v w3 ⟨a3, c3, rfl, n3⟩
  have h3 := h2.kp0 n3.kp
  have i3 := i2.snoc k2.size n3
  have k3 := k2.trans n3.kp
  (repeat refine zo rfl rfl trivial ?_)
  refine o_alloc rfl rfl rfl rfl ?_
  intro b10 w4 hb4 hu4
  refine o_storeA (cs := [I (tView s o n).ph, I (tView s o n).th, .slice a3 (tView s o n).L.length c3]) rfl hu4.blk (Nat.le_refl _) rfl (by simp [Value.oneCell']) rfl rfl rfl rfl ?_
  intro w5 hu5
  have k35 : Kp [] w3 w5 := (hu4.kp [] (.inr (by omega))).since (hu5.kp [b10] (.inl (by simp))) (by simp; omega)
  have hB10 : Blk w5 b10 [I (tView s o n).ph, I (tView s o n).th, .slice a3 (tView s o n).L.length c3] 41 := hu5.blk
  have h5 := h3.kp0 k35
  have k5 := k3.trans k35
  have i5 := i3.rebase k35 (Nat.le_refl _)
  (repeat first|refine zA ?_|refine zg ?_|refine zo rfl rfl trivial ?_|refine zn ?_)
  refine o_call (sKHeld h5 n) rfl rfl rfl ?_
  rintro v w6 ⟨a6, c6, rfl, n6⟩
  have h6 := h5.kp0 n6.kp
  have i6 := i5.snoc k5.size n6
  have k6 := k5.trans n6.kp
  (repeat first|refine zA ?_|refine zg ?_|refine zo rfl rfl trivial ?_|refine zn ?_)
  refine o_call (sKKeeps h6 n) rfl rfl rfl ?_
  rintro v w7 ⟨a7, c7, rfl, n7⟩
  have h7 := h6.kp0 n7.kp
  have i7 := i6.snoc k6.size n7
  have k7 := k6.trans n7.kp
  (repeat first|refine zA ?_|refine zg ?_|refine zo rfl rfl trivial ?_|refine zn ?_)
  refine o_call (sKView h7 n) rfl rfl rfl ?_
  rintro v w8 ⟨a8, c8, rfl, n8⟩
  have h8 := h7.kp0 n8.kp
  have i8 := i7.snoc k7.size n8
  have k8 := k7.trans n8.kp
  (repeat refine zo rfl rfl trivial ?_)
  refine o_alloc rfl rfl rfl rfl ?_
  intro b15 w9 hb9 hu9
  refine o_storeA (cs := [I (tView s o n).ph, I (tView s o n).th, .slice a8 (tView s o n).L.length c8]) rfl hu9.blk (Nat.le_refl _) rfl (by simp [Value.oneCell']) rfl rfl rfl rfl ?_
  intro w10 hu10
  have k810 : Kp [] w8 w10 := (hu9.kp [] (.inr (by omega))).since (hu10.kp [b15] (.inl (by simp))) (by simp; omega)
  have hB15 : Blk w10 b15 [I (tView s o n).ph, I (tView s o n).th, .slice a8 (tView s o n).L.length c8] 41 := hu10.blk
  have hB10' := ((n6.kp.trans (n7.kp.trans n8.kp)).trans k810).blk (by simp) hB10
  have h10 := h8.kp0 k810
  have k10 := k8.trans k810
  (repeat first|refine zA ?_|refine zg ?_|refine zo rfl rfl trivial ?_|refine zn ?_)
  refine o_load (v := .slice a3 (tView s o n).L.length c3) rfl hB10' rfl rfl rfl rfl rfl ?_
  (repeat refine zo rfl rfl trivial ?_)
  refine o_load (v := .slice a8 (tView s o n).L.length c8) rfl hB15 rfl rfl rfl rfl rfl ?_
  refine o_buildSlice [.slice a1 (tHeld o n).length c1, .slice a2 ((tKeeps o n).getD []).length c2, .slice a3 (tView s o n).L.length c3, .slice a6 (tHeld o n).length c6, .slice a7 ((tKeeps o n).getD []).length c7, .slice a8 (tView s o n).L.length c8] rfl (by simp [Value.oneCell']) rfl (by decide) (by decide) rfl rfl rfl rfl rfl ?_
  intro ba w11 hba hu11
  have k1011 : Kp [] w10 w11 := hu11.kp [] (.inr (by omega))
  have i11 := i8.rebase (k810.trans k1011) (ba' := ba) (by have := k810.size; omega)
  have k11 := k10.trans k1011
  have h11 := h10.kp0 k1011
  generalize hQ : ([] ++ _ ++ _ ++ _ ++ _ ++ _ ++ _ : List RQ) = Q0 at i11
  have hBa : Blk w11 ba (rqC Q0) 22 := by rw [← hQ]; exact hu11.blk
  have hQl : Q0.length = 6 := by rw [← hQ]; rfl
  have hov : OvTo Q0 0 0 := by
    rw [← hQ]
    intro q z hz
    match q, hz with
    | 0, hz => cases hz; exact ⟨⟨rfl, rfl⟩, fun c => by omega, fun _ m v hm => by omega⟩
    | 1, hz => cases hz; exact ⟨⟨rfl, rfl⟩, fun c => by omega, fun _ m v hm => by omega⟩
    | 2, hz => cases hz; exact ⟨⟨rfl, rfl⟩, fun c => by omega, fun _ m v hm => by omega⟩
    | 3, hz => cases hz; exact ⟨⟨rfl, rfl⟩, fun c => by omega, fun _ m v hm => by omega⟩
    | 4, hz => cases hz; exact ⟨⟨rfl, rfl⟩, fun c => by omega, fun _ m v hm => by omega⟩
    | 5, hz => cases hz; exact ⟨⟨rfl, rfl⟩, fun c => by omega, fun _ m v hm => by omega⟩
    | q + 6, hz => simp at hz
  have hn6 : ∀ z ∈ Q0, z.x.n ≤ 4096 := by
    rw [← hQ]
    intro z hz
    simp only [List.nil_append, List.cons_append, List.mem_cons, List.not_mem_nil, or_false] at hz
    rcases hz with rfl | rfl | rfl | rfl | rfl | rfl
    · exact hb.1
    · exact hb.2.1
    · exact hb.2.2
    · exact hb.1
    · exact hb.2.1
    · exact hb.2.2
  clear hQ
  generalize hAe : (Value.slice (some ⟨ba, 0, none⟩) 6 6) = vA
  subst hAe
  have z11 : ba < w11.heap.size := hBa.lt
  clear hB10' hB10 hB15 i1 i2 i3 i5 i6 i7 i8 n1 n2 n3 n6 n7 n8
  (repeat first|refine zA ?_|refine zB ?_|refine zg ?_|refine zo rfl rfl trivial ?_|refine zn ?_|refine zb ?_)
  refine r_loop (α := Nat × List RQ) [0, 1, 2, 17, 18] (fun x => [kV o, rV o, I n, .slice (some ⟨ba, 0, none⟩) 6 6, I x.1]) (fun x W => x.1 ≤ 6 ∧ x.2.length = 6 ∧ Inv6 w W ba x.2 ∧ OvTo x.2 x.1 0 ∧ rqC x.2 = rqC Q0 ∧ Blk W ba (rqC Q0) 22 ∧ Kp [] w W ∧ ∀ z ∈ x.2, z.x.n ≤ 4096) (fun x => 6 - x.1) (0, Q0) rfl ⟨by omega, hQl, i11, hov, rfl, hBa, k11, hn6⟩ ?_
  rintro ⟨i, Q⟩ e W ⟨hi, hl, hI, hO, hC, hB, kW, hn6⟩
  dsimp only at hi hl hI hO hC hn6
  (repeat first|refine zA ?_|refine zB ?_|refine zg ?_|refine zo rfl rfl trivial ?_|refine zn ?_)
  refine r_if rfl (fun hc => ?_) (fun hc => ?_)
  · have hlt : i < 6 := by omega
    (repeat first|refine zA ?_|refine zC ?_|refine zg ?_|refine zo rfl rfl trivial ?_|refine zn ?_|refine zb ?_|refine zk ?_)
    refine r_loop (α := Nat × List RQ) [0, 1, 2, 17, 18, 19] (fun x => [kV o, rV o, I n, .slice (some ⟨ba, 0, none⟩) 6 6, I i, I x.1]) (fun x W => x.2.length = 6 ∧ Inv6 w W ba x.2 ∧ OvTo x.2 i x.1 ∧ rqC x.2 = rqC Q0 ∧ Blk W ba (rqC Q0) 22 ∧ Kp [] w W ∧ (∀ z ∈ x.2, z.x.n ≤ 4096) ∧ ∀ z, x.2[i]? = some z → x.1 ≤ z.x.n) (fun x => 4096 - x.1) (0, Q) rfl ⟨hl, hI, hO, hC, hB, kW, hn6, fun z _ => by dsimp only; omega⟩ ?_
    clear hI hO hC hB kW hn6 hl
    rintro ⟨j, Q⟩ e W ⟨hl, hI, hO, hC, hB, kW, hn6, hj⟩
    dsimp only at hl hI hO hC hn6 hj
    obtain ⟨z, hz⟩ : ∃ z, Q[i]? = some z := ⟨_, List.getElem?_eq_getElem (by omega)⟩
    have hzm := hn6 z (List.mem_of_getElem? hz)
    have hg : (rqC Q0)[i]? = some (lgV z.x) := by rw [← hC]; unfold rqC; rw [List.getElem?_map, hz]; rfl
    have hjz := hj z hz
    (repeat first|refine zA ?_|refine zB ?_|refine zg ?_|refine zo rfl rfl (by first|exact trivial|(simp only[AllP];omega)) ?_)
    refine o_loadc (b := ba) (off := i) (v := lgV z.x) (by show Value.pointer (some ⟨ba, 0 + i, none⟩) = _; rw [Nat.zero_add]) (hB.cell hg) rfl rfl rfl rfl ?_
    (repeat first|refine zo rfl rfl trivial ?_|refine zn ?_)
    refine r_if rfl (fun hc => ?_) (fun hc => ?_)
    · have hjn : j < z.x.n := by omega
      obtain ⟨b, L, had, hBL, hjL, hbT, hset⟩ := hI.over hz (hO i z hz).1 hjn kW.size hB.lt (-5 - i)
      have hg2 : (rqC Q0)[i]? = some (.slice (some ⟨b, 0, none⟩) z.x.n z.x.cap) := by rw [hg, lgV, had]
      obtain ⟨hb1, hb2, _⟩ := hI.nw i z hz b hbT
      (repeat first|refine zC ?_|refine zg ?_|refine zo rfl rfl (by first|exact trivial|(simp only[AllP];omega)) ?_|refine zb ?_|refine zk ?_)
      refine o_loadc (b := ba) (off := i) (v := .slice (some ⟨b, 0, none⟩) z.x.n z.x.cap) (by show Value.pointer (some ⟨ba, 0 + i, none⟩) = _; rw [Nat.zero_add]) (hB.cell hg2) rfl rfl rfl rfl ?_
      (repeat refine zo rfl rfl (by first|exact trivial|(simp only[AllP];omega)) ?_)
      refine o_store (b := b) (off := j) (v := I (-5 - i)) (c := none) (by show Value.pointer (some ⟨b, 0 + j, none⟩) = _; rw [Nat.zero_add]) hBL hjL rfl rfl rfl rfl rfl rfl ?_
      intro W2 hu
      have hk : Kp [b] W W2 := hu.kp _ (.inl (by simp))
      (repeat first|refine zg ?_|refine zo rfl rfl (by first|exact trivial|(simp only[AllP];omega)) ?_|refine zn ?_)
      refine ⟨(j + 1, Q.set i { z with rs := z.rs.set j (-5 - i), ms := z.rs.set j (-5 - i) }), rfl, ⟨by simp [hl], hset W2 hu, hO.step hz, by dsimp only; rw [rqC_set hz (by rfl), hC], hk.blk (by simp; omega) hB, kW.since hk (by simp; omega), fun u hu => ?_, fun u hu => ?_⟩, by dsimp only; omega⟩
      · rcases List.mem_or_eq_of_mem_set hu with hu | rfl
        · exact hn6 u hu
        · exact hzm
      · rcases setR_old hu with ⟨_, rfl⟩ | ⟨hq, _⟩
        · dsimp only; omega
        · exact absurd rfl hq
    · have hle : z.rs.length ≤ j := by have := (hI.row i z hz).2.1; omega
      (repeat first|refine zg ?_|refine zo rfl rfl (by first|exact trivial|(simp only[AllP];omega)) ?_|refine zn ?_|refine ze rfl ?_)
      exact ⟨(i + 1, Q), rfl, ⟨by dsimp only; omega, hl, hI, hO.next hz hle, hC, hB, kW, hn6⟩, by dsimp only; omega⟩
  have hi6 : i = 6 := by omega
  subst hi6
  have hG := hO.grow hl
  clear hO hi hc
  (repeat first|refine zA ?_|refine zB ?_|refine zg ?_|refine zo rfl rfl trivial ?_|refine zn ?_|refine zb ?_|refine ze rfl ?_)
  refine r_loop (α := Nat × List RQ × Option Addr × Nat) [0, 1, 2, 17, 20, 21] (fun x => [kV o, rV o, I n, .slice (some ⟨ba, 0, none⟩) 6 6, .slice x.2.2.1 x.1 x.2.2.2, I x.1]) (fun x W => x.1 ≤ 6 ∧ x.2.1.length = 6 ∧ Inv6 w W ba x.2.1 ∧ GrTo x.2.1 x.1 0 ∧ rqC x.2.1 = rqC Q0 ∧ Blk W ba (rqC Q0) 22 ∧ Kp [] w W ∧ (∀ z ∈ x.2.1, z.x.n ≤ 4096) ∧ OwnS W 22 1 x.2.2.1 x.1 x.2.2.2 (moC x.2.1 x.1) ∧ ∀ b, b ∈ blkOf x.2.2.1 → w.heap.size ≤ b ∧ b ≠ ba ∧ ∀ (q : Nat) z, x.2.1[q]? = some z → b ∉ z.T) (fun x => 6 - x.1) (0, Q, none, 0) rfl ⟨by omega, hl, hI, hG, hC, hB, kW, hn6, ownS_nil _ _ _, by simp [blkOf]⟩ ?_
  clear hG hI hC hB kW hn6 hl
  rintro ⟨i, Q, mad, mcap⟩ e W ⟨hi, hl, hI, hG, hC, hB, kW, hn6, hM, hMb⟩
  dsimp only at hi hl hI hG hC hn6 hM hMb
  (repeat first|refine zA ?_|refine zB ?_|refine zg ?_|refine zo rfl rfl trivial ?_|refine zn ?_)
  refine r_if rfl (fun hc => ?_) (fun hc => ?_)
  · have hlt : i < 6 := by omega
    obtain ⟨z, hz⟩ : ∃ z, Q[i]? = some z := ⟨_, List.getElem?_eq_getElem (by omega)⟩
    have hg : (rqC Q0)[i]? = some (lgV z.x) := by rw [← hC]; unfold rqC; rw [List.getElem?_map, hz]; rfl
    have hyx : z.y = z.x := ((hG i z hz).2.2.2.2 rfl).2 rfl
    (repeat first|refine zA ?_|refine zC ?_|refine zg ?_|refine zo rfl rfl (by first|exact trivial|(simp only[AllP];omega)) ?_|refine zb ?_|refine zk ?_)
    refine o_loadc (b := ba) (off := i) (v := lgV z.x) (by show Value.pointer (some ⟨ba, 0 + i, none⟩) = _; rw [Nat.zero_add]) (hB.cell hg) rfl rfl rfl rfl ?_
    rw [← hyx]
    (repeat first|refine zA ?_|refine zB ?_|refine zg ?_|refine zo rfl rfl trivial ?_|refine zn ?_|refine zb ?_)
    refine r_loop (α := Nat × List RQ × LG) [0, 1, 2, 17, 20, 21, 22, 23] (fun x => [kV o, rV o, I n, .slice (some ⟨ba, 0, none⟩) 6 6, .slice mad i mcap, I i, .slice x.2.2.ad x.2.2.n x.2.2.cap, I x.1]) (fun x W => x.1 ≤ 70 ∧ x.2.1.length = 6 ∧ Inv6 w W ba x.2.1 ∧ GrTo x.2.1 i x.1 ∧ rqC x.2.1 = rqC Q0 ∧ Blk W ba (rqC Q0) 22 ∧ Kp [] w W ∧ (∀ z ∈ x.2.1, z.x.n ≤ 4096) ∧ OwnS W 22 1 mad i mcap (moC x.2.1 i) ∧ (∀ b, b ∈ blkOf mad → w.heap.size ≤ b ∧ b ≠ ba ∧ ∀ (q : Nat) z, x.2.1[q]? = some z → b ∉ z.T) ∧ ∃ z, x.2.1[i]? = some z ∧ z.y = x.2.2) (fun x => 70 - x.1) (0, Q, z.y) rfl ⟨by omega, hl, hI, hG, hC, hB, kW, hn6, hM, hMb, z, hz, rfl⟩ ?_
    clear hl hI hG hC hn6 hM hMb hB kW hg hyx hz z
    rintro ⟨j, Q, y⟩ e W ⟨hj, hl, hI, hG, hC, hB, kW, hn6, hM, hMb, z, hz, rfl⟩
    dsimp only at hj hl hI hG hC hn6 hM hMb
    have hzm := hn6 z (List.mem_of_getElem? hz)
    have hyn := ((hG i z hz).2.2.2.2 rfl).1
    obtain ⟨g1, g2, g3⟩ := hI.row i z hz
    (repeat first|refine zA ?_|refine zB ?_|refine zg ?_|refine zo rfl rfl trivial ?_|refine zn ?_)
    refine r_if rfl (fun hc => ?_) (fun hc => ?_)
    · (repeat first|refine zC ?_|refine zg ?_|refine zo rfl rfl (by first|exact trivial|(simp only[AllP];omega)) ?_|refine zb ?_|refine zk ?_)
      refine o_buildSlice [I (-5 - i)] rfl (by simp [Value.oneCell']) rfl (by decide) (by decide) rfl rfl rfl rfl rfl ?_
      intro bm w5 hbm hu5
      have k5 : Kp [] W w5 := hu5.kp [] (.inr (by omega))
      have hI5 := hI.kp0 k5
      obtain ⟨g1, g2, g3⟩ := hI5.row i z hz
      have own := g1.own
      rw [g3] at own
      refine o_appendK [I (-5 - i)] rfl rfl own (fun m v hv => by rw [addr_lit, Nat.zero_add]; exact hu5.blk.cell hv) rfl rfl rfl (by omega) rfl (by omega) (by simp [Value.oneCell']) (by show z.y.n + 1 ≤ maxLen; simp only [maxLen]; omega) (by show (z.y.n + 1) * 8 ≤ 140737488355328; omega) rfl rfl ?_
      intro ad' cap' w6 ho6 k6 hn6' hq6
      have hB5 := k5.blk (by simp) hB
      have z5 := k5.size
      have hI6 := hI5.push hz (Nat.le_trans kW.size z5) hB5.lt ho6 k6 hn6' hq6
      have yT : ∀ b, b ∈ blkOf z.y.ad → b ∈ z.T := fun b hb => by simp [RQ.T, hb]
      have hMl := hM.lt
      (repeat first|refine zg ?_|refine zo rfl rfl (by first|exact trivial|(simp only[AllP];omega)) ?_|refine zn ?_)
      refine ⟨(j + 1, Q.set i { z with y := ⟨ad', z.y.n + 1, cap'⟩, ms := z.ms ++ [-5 - (i : Int)] }, ⟨ad', z.y.n + 1, cap'⟩), rfl, ⟨by dsimp only; omega, by simp [hl], hI6, hG.step hz ad' cap', by dsimp only; rw [rqC_set hz (by rfl), hC], k6.blk (fun hb => (hI5.nw i z hz _ (yT _ hb)).2.1 rfl) hB5, (kW.trans k5).since k6 (fun b hb => (hI5.nw i z hz b (yT b hb)).1), fun u hu => ?_, ?_, fun b hb => ?_, _, List.getElem?_set_self (by omega), rfl⟩, by dsimp only; omega⟩
      · rcases List.mem_or_eq_of_mem_set hu with hu | rfl
        · exact hn6 u hu
        · exact hzm
      · dsimp only
        rw [moC_set]
        exact (hM.kp k5 (by simp)).kp k6 (fun b hb hb2 => (hMb b hb).2.2 i z hz (yT b hb2))
      · obtain ⟨m1, m2, m3⟩ := hMb b hb
        refine ⟨m1, m2, fun q u hu => ?_⟩
        rcases setR_old hu with ⟨_, rfl⟩ | ⟨_, hu⟩
        · intro hb2
          rcases List.mem_append.1 hb2 with hb2 | hb2
          · exact m3 i z hz (by simp [RQ.T, show b ∈ blkOf z.x.ad from hb2])
          · rcases hn6' b hb2 with r | r
            · exact m3 i z hz (yT b r)
            · have := hMl b hb; omega
        · exact m3 q u hu
    · have hj70 : j = 70 := by omega
      subst hj70
      (repeat first|refine zg ?_|refine zo rfl rfl trivial ?_|refine ze rfl ?_)
      refine o_buildSlice [lgV z.y] rfl (by simp [Value.oneCell']) rfl (by decide) (by decide) rfl rfl rfl rfl rfl ?_
      intro bm w5 hbm hu5
      have k5 : Kp [] W w5 := hu5.kp [] (.inr (by omega))
      refine o_append1 rfl rfl (hM.kp k5 (by simp)) hu5.blk rfl rfl rfl rfl (by simp only [maxLen]; omega) (by omega) rfl rfl ?_
      intro mad' mcap' w6 ho6 k6 hn6'
      have hI5 := hI.kp0 k5
      have z5 := k5.size
      have zW := kW.size
      have hB5 := k5.blk (by simp) hB
      (repeat first|refine zg ?_|refine zo rfl rfl (by first|exact trivial|(simp only[AllP];omega)) ?_|refine zn ?_)
      refine ⟨(i + 1, Q, mad', mcap'), rfl, ⟨by dsimp only; omega, hl, hI5.kp k6 (fun q u hu b hb hb2 => (hMb b hb2).2.2 q u hu hb), hG.next, hC, k6.blk (fun hb => (hMb _ hb).2.1 rfl) hB5, (kW.trans k5).since k6 (fun b hb => (hMb b hb).1), hn6, by dsimp only; rw [moC_succ hz]; exact ho6, fun b hb => ?_⟩, by dsimp only; omega⟩
      rcases hn6' b hb with r | r
      · exact hMb b r
      · exact ⟨by omega, by have := hB.lt; omega, fun q u hu hb2 => by have := (hI.nw q u hu b hb2).2.2; omega⟩
  have hi6 : i = 6 := by omega
  subst hi6
  clear hc hi
  have mlen : (moC Q 6).length = 6 := by unfold moC; rw [List.length_map, List.length_take]; omega
  obtain ⟨mb, mo, rfl, _, mcell⟩ := hM.readN.at_ (by omega)
  (repeat first|refine zA ?_|refine zB ?_|refine zg ?_|refine zo rfl rfl trivial ?_|refine zn ?_|refine zb ?_|refine ze rfl ?_)
  refine r_loop (α := Nat) [0, 1, 2, 17, 20, 24] (fun i => [kV o, rV o, I n, .slice (some ⟨ba, 0, none⟩) 6 6, .slice (some ⟨mb, mo, none⟩) 6 mcap, I i]) (fun i W' => i ≤ 6 ∧ W = W') (fun i => 6 - i) 0 rfl ⟨by omega, rfl⟩ ?_
  rintro i e _ ⟨hi, rfl⟩
  (repeat first|refine zA ?_|refine zB ?_|refine zg ?_|refine zo rfl rfl trivial ?_|refine zn ?_)
  refine r_if rfl (fun hc => ?_) (fun hc => ?_)
  · have hlt : i < 6 := by omega
    obtain ⟨z, hz⟩ : ∃ z, Q[i]? = some z := ⟨_, List.getElem?_eq_getElem (by omega)⟩
    have hg : (rqC Q0)[i]? = some (lgV z.x) := by rw [← hC]; unfold rqC; rw [List.getElem?_map, hz]; rfl
    have hm : (moC Q 6)[i]? = some (lgV z.y) := by unfold moC; rw [List.getElem?_map, List.getElem?_take, if_pos hlt, hz]; rfl
    obtain ⟨v1, v2, _, v4, _⟩ := hG i z hz
    have hyn := v4 hlt
    have hzm := hn6 z (List.mem_of_getElem? hz)
    obtain ⟨g1, g2, g3⟩ := hI.row i z hz
    (repeat first|refine zA ?_|refine zC ?_|refine zg ?_|refine zo rfl rfl trivial ?_|refine zn ?_|refine zb ?_|refine zk ?_)
    refine r_loop (α := Nat) [0, 1, 2, 17, 20, 24, 25] (fun j => [kV o, rV o, I n, .slice (some ⟨ba, 0, none⟩) 6 6, .slice (some ⟨mb, mo, none⟩) 6 mcap, I i, I j]) (fun j W' => j ≤ z.y.n ∧ W = W') (fun j => z.y.n - j) 0 rfl ⟨by omega, rfl⟩ ?_
    rintro j e _ ⟨hj, rfl⟩
    (repeat first|refine zA ?_|refine zB ?_|refine zg ?_|refine zo rfl rfl (by first|exact trivial|(simp only[AllP];omega)) ?_)
    refine o_loadc (b := mb) (off := mo + i) (v := lgV z.y) rfl (mcell i _ hm) rfl rfl rfl rfl ?_
    (repeat first|refine zo rfl rfl trivial ?_|refine zn ?_)
    refine r_if rfl (fun hc => ?_) (fun hc => ?_)
    · have hjy : j < z.y.n := by omega
      obtain ⟨v, hv⟩ : ∃ v, z.ms[j]? = some v := ⟨_, List.getElem?_eq_getElem (by omega)⟩
      have ev5 := v2 v (List.mem_of_getElem? hv)
      obtain ⟨yb, yo, hyad, _, ycell⟩ := g1.own.readN.at_ (by rw [← List.map_eq_flatMap, List.length_map]; omega)
      have hm2 : (moC Q 6)[i]? = some (.slice (some ⟨yb, yo, none⟩) z.y.n z.y.cap) := by rw [hm, lgV, hyad]
      (repeat first|refine zA ?_|refine zC ?_|refine zg ?_|refine zo rfl rfl (by first|exact trivial|(simp only[AllP];omega)) ?_|refine zb ?_|refine zk ?_)
      refine o_loadc (b := mb) (off := mo + i) (v := .slice (some ⟨yb, yo, none⟩) z.y.n z.y.cap) rfl (mcell i _ hm2) rfl rfl rfl rfl ?_
      (repeat refine zo rfl rfl (by first|exact trivial|(simp only[AllP];omega)) ?_)
      refine o_loadc (b := yb) (off := yo + j) (v := I (-5 - i)) rfl (ycell j _ (by rw [← ev5]; exact fI_get hv)) rfl rfl rfl rfl ?_
      (repeat refine zo rfl rfl (by first|exact trivial|(simp only[AllP];omega)) ?_)
      refine o_is false 10 false rfl rfl rfl (by simp) ?_
      (repeat refine zo rfl rfl (by first|exact trivial|(simp only[AllP];omega)) ?_)
      refine o_loadc (b := ba) (off := i) (v := lgV z.x) (by show Value.pointer (some ⟨ba, 0 + i, none⟩) = _; rw [Nat.zero_add]) (hB.cell hg) rfl rfl rfl rfl ?_
      (repeat refine zo rfl rfl trivial ?_)
      by_cases c : j < z.x.n
      · refine o_is true 18 true rfl rfl rfl (decide_eq_true (by omega)) ?_
        obtain ⟨u, hu⟩ : ∃ u, z.rs[j]? = some u := ⟨_, List.getElem?_eq_getElem (by omega)⟩
        have eu5 := v1 u (List.mem_of_getElem? hu)
        obtain ⟨xb, xo, hxad, _, xcell⟩ := g1.read.at_ (by rw [← List.map_eq_flatMap, List.length_map]; omega)
        have hg2 : (rqC Q0)[i]? = some (.slice (some ⟨xb, xo, none⟩) z.x.n z.x.cap) := by rw [hg, lgV, hxad]
        (repeat refine zo rfl rfl (by first|exact trivial|(simp only[AllP];omega)) ?_)
        refine o_loadc (b := ba) (off := i) (v := .slice (some ⟨xb, xo, none⟩) z.x.n z.x.cap) (by show Value.pointer (some ⟨ba, 0 + i, none⟩) = _; rw [Nat.zero_add]) (hB.cell hg2) rfl rfl rfl rfl ?_
        (repeat refine zo rfl rfl (by first|exact trivial|(simp only[AllP];omega)) ?_)
        refine o_loadc (b := xb) (off := xo + j) (v := I (-5 - i)) rfl (xcell j _ (by rw [← eu5]; exact fI_get hu)) rfl rfl rfl rfl ?_
        (repeat first|refine zo rfl rfl (by first|exact trivial|(simp only[AllP];omega)) ?_|refine zn ?_)
        refine r_no rfl (by simp) ?_
        (repeat first|refine zg ?_|refine zo rfl rfl (by first|exact trivial|(simp only[AllP];omega)) ?_|refine zn ?_|refine zk ?_)
        exact ⟨j + 1, rfl, ⟨by omega, rfl⟩, by omega⟩
      · refine o_is false 18 true rfl rfl rfl (decide_eq_false (by omega)) ?_
        (repeat first|refine zg ?_|refine zo rfl rfl (by first|exact trivial|(simp only[AllP];omega)) ?_|refine zn ?_|refine zk ?_|refine zf rfl ?_)
        exact ⟨j + 1, rfl, ⟨by omega, rfl⟩, by omega⟩
    · (repeat first|refine zg ?_|refine zo rfl rfl (by first|exact trivial|(simp only[AllP];omega)) ?_|refine zn ?_|refine ze rfl ?_)
      exact ⟨i + 1, rfl, ⟨by omega, rfl⟩, by omega⟩
  have hP := h.kp0 kW
  (repeat first|refine zA ?_|refine zg ?_|refine zo rfl rfl trivial ?_|refine ze rfl ?_)
  refine o_call (sKWarned hP) rfl rfl rfl ?_
  rintro v u1 ⟨wad, wcap, rfl, hw1, q1, hwn⟩
  have hP1 := hP.kp0 q1
  (repeat first|refine zA ?_|refine zg ?_|refine zo rfl rfl trivial ?_|refine zn ?_)
  refine o_call (sKWarned hP1) rfl rfl rfl ?_
  rintro v u2 ⟨xad, xcap, rfl, hx2, q2, hxn⟩
  have hP2 := hP1.kp0 q2
  have hfl : flagsC (tWarn s o) = ((tWarn s o).map fun x => ((x.1 : Int), x.2)).flatMap opC2 := by unfold flagsC; rw [List.flatMap_map]
  have hw2 := hw1.kp q2 (by simp)
  have hwl := hw1.lt
  have wlen : (tWarn s o).length ≤ 4294967296 := by
    cases o with
    | none => simp [tWarn]
    | some x => have := warnR_len x.A s.va.toNat; have := (hP x rfl).rs.rc.ok.sh.2.1; show (warnR x.A s.va.toNat).length ≤ _; omega
  rw [hfl] at hw2
  generalize hxs : ((tWarn s o).map fun x => ((x.1 : Int), x.2)) = xs0 at hw2
  have hx0 : xs0.length = (tWarn s o).length := by rw [← hxs]; simp
  have q02 := kW.trans (q1.trans q2)
  have zz := q1.size
  have z2 := q2.size
  have zW := kW.size
  (repeat first|refine zA ?_|refine zB ?_|refine zg ?_|refine zo rfl rfl trivial ?_|refine zn ?_|refine zb ?_)
  refine r_loop (α := Nat) [0, 1, 2, 26, 27, 28] (fun i => [kV o, rV o, I n, .slice wad (tWarn s o).length wcap, .slice xad (tWarn s o).length xcap, I i]) (fun i W' => i ≤ (tWarn s o).length ∧ Kp (blkOf wad) u2 W' ∧ ∃ xs : List (Int × Int), xs.length = (tWarn s o).length ∧ OwnS W' 82 2 wad (tWarn s o).length wcap (xs.flatMap opC2)) (fun i => (tWarn s o).length - i) 0 rfl ⟨by omega, Kp.refl _ _, xs0, hx0, hw2⟩ ?_
  rintro i e W3 ⟨hi, k3, xs, hxl, hO⟩
  (repeat first|refine zA ?_|refine zB ?_|refine zg ?_|refine zo rfl rfl trivial ?_|refine zn ?_)
  refine r_if rfl (fun hc => ?_) (fun hc => ?_)
  · obtain ⟨x, hx⟩ : ∃ x, xs[i]? = some x := ⟨_, List.getElem?_eq_getElem (by omega)⟩
    obtain ⟨b, L, rfl, hBL, hiL, hwr⟩ := OwnS.recB (f := opC2) hO hxl (fun _ => rfl) (by decide) hx 0 (I (-5)) (-5, x.2) (by decide) rfl
    (repeat first|refine zC ?_|refine zg ?_|refine zo rfl rfl (by first|exact trivial|(simp only[AllP];omega)) ?_|refine zb ?_|refine zk ?_)
    refine o_store (b := b) (off := i * 2 + 0) (v := I (-5)) (by simp only [Int.toNat_natCast, Nat.zero_add, Nat.add_zero]; rfl) hBL hiL rfl rfl rfl rfl rfl rfl ?_
    intro W4 hu
    (repeat first|refine zg ?_|refine zo rfl rfl (by first|exact trivial|(simp only[AllP];omega)) ?_|refine zn ?_)
    exact ⟨i + 1, rfl, ⟨by omega, k3.trans (hu.kp _ (.inl (by simp [blkOf]))), xs.set i (-5, x.2), by simp [hxl], hwr W4 hu⟩, by omega⟩
  have k03 : Kp [] w W3 := q02.since k3 (fun b hb => by have := hwn b hb; omega)
  have hP3 := h.kp0 k03
  have hx3 : ReadS W3 xad (flagsC (tWarn s o)) := hx2.readN.kp k3 (fun b hb hb2 => by have := hxn b hb; have := hwl b hb2; omega)
  (repeat first|refine zA ?_|refine zg ?_|refine zo rfl rfl trivial ?_|refine ze rfl ?_)
  refine o_call (told_ret hP3 n ⟨by omega, by omega, by omega⟩) rfl rfl rfl ?_
  rintro v u4 ⟨rfl, k4⟩
  (repeat first|refine zo rfl rfl trivial ?_|refine zT rfl rfl rfl ?_)
  refine o_call (sRWarned (hP3.kp0 k4)) rfl rfl rfl ?_
  rintro v u5 ⟨yad, ycap, rfl, hy5, k5⟩
  refine o_call (sameFlags_yes (hx3.kp (k4.trans k5) (by simp)) hy5 rfl rfl (by omega)) rfl rfl rfl ?_
  rintro v u6 ⟨rfl, s6⟩
  (repeat first|refine zo rfl rfl trivial ?_|refine zn ?_|refine zr ?_)
  exact ⟨_, rfl, rfl, k03.trans ((k4.trans k5).trans (s6.kp []))⟩
end
end Go.Vc
