/- Parts of a proof. -/
import Derived.Test.YtkgngbpkiklckaaGreatDoorQClQExact37
set_option maxHeartbeats 12800000
namespace Go.Vc
open Go Go.Proofs
set_option maxRecDepth 20000
section
variable {w w' w1 w2 : World} {k : AkG} {L M : List (List UInt8 × Int)} {s s1 s2 : Int} {x x1 x2 : NA}
theorem Kp.into {S S' : List Nat} {w w' w'' : World} (h : Kp S w w') (k : Kp S' w' w'') (hs : ∀ b, b ∈ S' → b ∈ S ∨ w.heap.size ≤ b) : Kp S w w'' :=
 ⟨k.os.trans h.os, k.tape.trans h.tape, k.output.trans h.output, Nat.le_trans h.size k.size, fun i hi hS => (k.at_ i (Nat.lt_of_lt_of_le hi h.size) (fun hm => by rcases hs i hm with q | q; exact hS q; omega)).trans (h.at_ i hi hS)⟩
def NA.bl (x : NA) : List Nat := Ja1 x.nad ++ Ja1 x.aad
structure AkTo (w : World) (k : AkG) (L : List (List UInt8 × Int)) (x : NA) (s' : Int) (w' : World) (x' : NA) : Prop where
 at_ : AkO w' k L s' x'
 kp : Kp (k.p :: x.bl) w w'
 new : ∀ b, b ∈ x'.bl → b ∈ x.bl ∨ w.heap.size ≤ b
theorem AkTo.refl (h : AkO w k L s x) : AkTo w k L x s w x := ⟨h, Kp.refl _ _, fun _ hb => .inl hb⟩
theorem AkTo.trans (h : AkTo w k L x s1 w1 x1) (h2 : AkTo w1 k M x1 s2 w2 x2) : AkTo w k M x s2 w2 x2 :=
 ⟨h2.at_, h.kp.into h2.kp (fun b hb => by
  rcases List.mem_cons.1 hb with rfl | hb
  ·exact .inl sI
  ·rcases h.new b hb with q | q
   ·exact .inl (List.mem_cons_of_mem _ q)
   ·exact .inr q), fun b hb => by
  rcases h2.new b hb with q | q
  ·exact h.new b q
  ·exact .inr (Nat.le_trans h.kp.size q)⟩
theorem AkTo.kp0 (h : AkTo w k L x s w1 x1) (hk : Kp [] w1 w2) : AkTo w k L x s w2 x1 := ⟨h.at_.kp0 hk, h.kp.into hk sI, h.new⟩
theorem AkO.out (h : AkO w k L s x) {b : Nat} (hb : w.heap.size ≤ b) : b ≠ k.p ∧ b ∉ x.bl := by
 refine ⟨fun q => by have := h.hdr.lt; omega, fun q => ?_⟩
 rcases List.mem_append.1 q with q | q
 ·have := h.nm.lt b q; omega
 ·have := h.at_.lt b q; omega
theorem AkTo.blk (h : AkTo w k L x s w1 x1) {b : Nat} {cs : List Value} {T : TypeId} (hb : Blk w b cs T) (ho : b ≠ k.p ∧ b ∉ x.bl) : Blk w1 b cs T ∧ b ≠ k.p ∧ b ∉ x1.bl :=
 ⟨h.kp.blk (by simp only [List.mem_cons, not_or]; exact ho) hb, ho.1, fun q => by
  rcases h.new b q with q | q
  ·exact ho.2 q
  ·have := hb.lt; omega⟩
theorem with30_ret (hk : k.Ok) (h : AkO w k L s x) (name : List UInt8) (i : Int) (at_ : Nat) (hl : L.length < 1048576) {Q : Int → Int → Prop}
  (hask : ∀ w x, AkO w k (L ++ [(name, i)]) s x → Ret Tryz.prog 71 [ptr k.p, I at_] w (fun v w' => ∃ y s' x', v = I y ∧ AkTo w k (L ++ [(name, i)]) x s' w' x' ∧ Q y s')) :
  Ret Tryz.prog 150 [ptr k.p, S name, I i, I at_] w (fun v w' => ∃ y s' x', v = .bool (decide (y = 1)) ∧ AkTo w k L x s' w' x' ∧ Q y s') := by
 have hlo := h.lo
 have hpl := h.hdr.lt
 have hml : (L ++ [(name, i)]).length = L.length + 1 := sI
 refine Ze Tryz.call150 Tryz.func150 ?_
 refine zL h.hdr ?_
 refine Zn [S name] rfl rfl rfl kR ?_
 intro bn w1 hbn hu1
 have k1 : Kp [] w w1 := hu1.new oM
 refine Jh3 rfl rfl (h.nm.kp k1 sI) hu1.blk rfl rfl rfl rfl (by simp only [maxLen]; omega) oM rfl rfl ?_
 intro nad2 ncap2 w2 ho2 k2 hn2
 have k02 : Kp x.bl w w2 := (k1.mono sI).trans (k2.mono fun b hb => List.mem_append_left _ hb)
 have hd2 := k02.blk (fun q => (hlo _ q).2 rfl) h.hdr
 have hat2 : OwnS w2 3 1 x.aad L.length x.acap (L.map fun y => I y.2) := (h.at_.kp k1 sI).kp k2 fun b hb hb2 => h.ne b hb2 hb
 have hn2' : ∀ b, b ∈ Ja1 nad2 → (b ∈ Ja1 x.nad ∨ w.heap.size ≤ b) := fun b hb => (hn2 b hb).imp id fun q => Nat.le_trans k1.size q
 have y1 := k1.size
 clear k2 hn2 hu1 k1
 refine zS ?_
 refine Zt (b := k.p) (off := 2) (v := .slice nad2 (L.length + 1) ncap2) rfl hd2 sI ?_
 intro w3 hu3
 have k3 : Kp [k.p] w2 w3 := hu3.kp [k.p] (.inl sI)
 have hd3 : Blk w3 k.p [.slice k.qad k.l.length k.qcap, ptr k.g.p, .slice nad2 (L.length + 1) ncap2, .slice x.aad L.length x.acap, I s, I k.fuel] 161 := hu3.blk
 have hnp2 : ∀ b, b ∈ Ja1 nad2 → b ≠ k.p := fun b hb q => by
  rcases hn2' b hb with q2 | q2
  ·exact (hlo b (List.mem_append_left _ q2)).2 q
  ·omega
 have ho3 := ho2.kp k3 (fun b hb q => hnp2 b hb (List.mem_singleton.1 q))
 have hat3 := hat2.kp k3 (fun b hb q => (hlo b (List.mem_append_right _ hb)).2 (List.mem_singleton.1 q))
 have k03 : Kp (k.p :: x.bl) w w3 := (k02.mono fun b hb => List.mem_cons_of_mem _ hb).trans (k3.mono sI)
 clear hu3 k3 ho2 hat2 hd2 k02
 refine zL hd3 ?_
 refine Zn [I i] rfl rfl rfl kR ?_
 intro bi w4 hbi hu4
 have k4 : Kp [] w3 w4 := hu4.new oM
 have y03 := k03.size
 refine Jh3 rfl rfl (hat3.kp k4 sI) hu4.blk rfl rfl rfl rfl (by simp only [maxLen]; omega) oM rfl rfl ?_
 intro aad5 acap5 w5 ho5 k5 hn5
 have y4 := k4.size
 have hn3 : ∀ b, b ∈ Ja1 nad2 → b ∉ Ja1 x.aad := fun b hb q => by
  rcases hn2' b hb with q2 | q2
  ·exact h.ne b q2 q
  ·have := h.at_.lt b q; omega
 have hd5 := k5.blk (fun q => (hlo _ (List.mem_append_right _ q)).2 rfl) (k4.b0 hd3)
 have hnm5 := (ho3.kp k4 sI).kp k5 hn3
 have hn5' : ∀ b, b ∈ Ja1 aad5 → (b ∈ Ja1 x.aad ∨ w4.heap.size ≤ b) := hn5
 have k05 : Kp (k.p :: x.bl) w w5 := (k03.into k4 sI).into k5 fun b hb => .inl (List.mem_cons_of_mem _ (List.mem_append_right _ hb))
 clear k5 hn5 hu4 hd3
 refine zS ?_
 refine Zt (b := k.p) (off := 3) (v := .slice aad5 (L.length + 1) acap5) rfl hd5 sI ?_
 intro w6 hu6
 have k6 : Kp [k.p] w5 w6 := hu6.kp [k.p] (.inl sI)
 have k06 : Kp (k.p :: x.bl) w w6 := k05.trans (k6.mono sI)
 have hnp5 : ∀ b, b ∈ Ja1 aad5 → b ≠ k.p := fun b hb q => by
  rcases hn5' b hb with q2 | q2
  ·exact (hlo b (List.mem_append_right _ q2)).2 q
  ·omega
 have hn3lt : ∀ b, b ∈ Ja1 nad2 → b < w3.heap.size := fun b hb => ho3.lt b hb
 have hA6 : AkO w6 k (L ++ [(name, i)]) s ⟨nad2, ncap2, aad5, acap5⟩ := by
  refine ⟨?_, ?_, ?_, ?_, ?_, ?_⟩
  ·rw [hml]; exact hu6.blk
  ·exact h.kp.since k06 fun b hb => by
    rcases List.mem_cons.1 hb with rfl | hb
    ·exact hk.lo
    ·exact (hlo b hb).1
  ·rw [hml, List.map_append]; exact hnm5.kp k6 (fun b hb q => hnp2 b hb (List.mem_singleton.1 q))
  ·rw [hml, List.map_append]; exact ho5.kp k6 (fun b hb q => hnp5 b hb (List.mem_singleton.1 q))
  ·intro b hb
   have := h.kp.size
   rcases List.mem_append.1 hb with hb | hb
   ·refine ⟨?_, hnp2 b hb⟩
    rcases hn2' b hb with q | q
    ·exact (hlo b (List.mem_append_left _ q)).1
    ·omega
   ·refine ⟨?_, hnp5 b hb⟩
    rcases hn5' b hb with q | q
    ·exact (hlo b (List.mem_append_right _ q)).1
    ·omega
  ·intro b hb hb2
   have h1 := hn3lt b hb
   rcases hn5' b hb2 with q | q
   ·exact hn3 b hb q
   ·omega
 have hnew : ∀ b, b ∈ (NA.mk nad2 ncap2 aad5 acap5).bl → b ∈ x.bl ∨ w.heap.size ≤ b := fun b hb => by
  rcases List.mem_append.1 hb with hb | hb
  ·exact (hn2' b hb).imp (List.mem_append_left _) id
  ·exact (hn5' b hb).imp (List.mem_append_right _) fun q => oM
 have hT6 : AkTo w k (L ++ [(name, i)]) x s w6 ⟨nad2, ncap2, aad5, acap5⟩ := ⟨hA6, k06, hnew⟩
 clear hu6 k6 k06 hnp5 hn3lt hnew ho5 hnm5 hn5' k05 hd5 hn3 hat3 ho3 hnp2 k03 k4 hn2'
 refine zS ?_
 refine Zc (hask _ _ hA6) ?_
 rintro v w7 ⟨y, s', x3, rfl, hto, hQ⟩
 have hT7 := hT6.trans hto
 clear hT6 hA6 hto
 have hA7 := hT7.at_
 have hd7 := hA7.hdr
 have hc7 := hA7.nm.le_cap
 have hc8 := hA7.at_.le_cap
 rw [hml] at hd7 hc7 hc8
 refine zS ?_
 refine Ja9 ?_
 refine Je9 Ja0 rfl kR kR ?_
 refine zM hd7 ?_
 intro w8 hs8
 have e1 : (((L.length + 1 : Nat) : Int) - 1).toNat = L.length := oM
 refine Zt (b := k.p) (off := 2) (v := .slice x3.nad (((L.length + 1 : Nat) : Int) - 1).toNat x3.ncap) rfl (hs8.blk hd7) sI ?_
 intro w9 hu9
 have k9 : Kp [k.p] w7 w9 := (hs8.kp _).trans (hu9.kp [k.p] (.inl sI))
 have hd9 : Blk w9 k.p [.slice k.qad k.l.length k.qcap, ptr k.g.p, .slice x3.nad L.length x3.ncap, .slice x3.aad (L.length + 1) x3.acap, I s', I k.fuel] 161 := by
  have := hu9.blk
  rwa [e1] at this
 clear hu9
 refine zn ?_
 refine Ja9 ?_
 refine Je9 Ja0 rfl kR kR ?_
 refine zM hd9 ?_
 intro w10 hs10
 refine Zt (b := k.p) (off := 3) (v := .slice x3.aad (((L.length + 1 : Nat) : Int) - 1).toNat x3.acap) rfl (hs10.blk hd9) sI ?_
 intro w11 hu11
 have k11 : Kp [k.p] w7 w11 := k9.trans ((hs10.kp _).trans (hu11.kp [k.p] (.inl sI)))
 have hd11 : Blk w11 k.p [.slice k.qad k.l.length k.qcap, ptr k.g.p, .slice x3.nad L.length x3.ncap, .slice x3.aad L.length x3.acap, I s', I k.fuel] 161 := by
  have := hu11.blk
  rwa [e1] at this
 clear hu11 k9 hd9
 refine zS ?_
 refine ⟨_, rfl, y, s', x3, rfl, ⟨⟨hd11, hA7.kp.since k11 (fun b hb => by rw [List.mem_singleton.1 hb]; exact hk.lo), ?_, ?_, hA7.lo, hA7.ne⟩, hT7.kp.trans (k11.mono sI), hT7.new⟩, hQ⟩
 ·have := (hA7.nm.kp k11 (fun b hb q => (hA7.lo b (List.mem_append_left _ hb)).2 (List.mem_singleton.1 q))).take (g := L.length) (by rw [hml]; omega)
  rwa [List.map_append, List.take_left' sI] at this
 ·have := (hA7.at_.kp k11 (fun b hb q => (hA7.lo b (List.mem_append_right _ hb)).2 (List.mem_singleton.1 q))).take (g := L.length) (by rw [hml]; omega)
  rwa [List.map_append, List.take_left' sI] at this
end
section
variable {w : World} {k : AkG} {L : List (List UInt8 × Int)} {s : Int} {x : NA}
def AnsL (fuel : Nat) (s : Int) (tot : Int × Nat) (y s' : Int) : Prop := (y = tot.1 ∧ s' = s + tot.2 ∧ s' ≤ fuel) ∨ ((fuel : Int) < s' ∧ (fuel : Int) < s + tot.2)
def AskB (k : AkG) (a : QT) (M : List (List UInt8 × Int)) (s y s' : Int) : Prop := s < s' ∧ s' ≤ max s k.fuel + 1 + a.size ∧ AnsL k.fuel s (evq (qwO k.E k.R) a (Je8 M)) y s'
theorem bind23 {f : Int → Int × Nat} : ∀ (r : List Int) (c c' : Int), Je5 23 f r c = Je5 23 f r c'
 | [], c, c' => rfl
 | i :: r, c, c' => by
  rw [Je5, Je5, bind23 r _ (c' + trI (decide ((f i).1 = 1)))]
def evE (n : Nat) (op : Int) (i : Nat) : Int := if op = 26 then ((n - 1 - i : Nat) : Int) else i
theorem evs_drop (W : QW) (op : Int) {i : Nat} (hi : i < W.n) : (evs W op).drop i = evE W.n op i :: (evs W op).drop (i + 1) := by
 have key : (evs W op)[i]? = some (evE W.n op i) := by
  unfold evs evE
  by_cases h : op = 26
  ·rw [if_pos h, if_pos h, List.getElem?_map, List.getElem?_range hi]; rfl
  ·rw [if_neg h, if_neg h, List.getElem?_map, List.getElem?_range hi]; rfl
 rw [List.drop_eq_getElem_cons (List.getElem?_eq_some_iff.1 key).1, (List.getElem?_eq_some_iff.1 key).2]
theorem evs_end (W : QW) (op : Int) : (evs W op).drop W.n = [] := by
 refine List.drop_eq_nil_of_le ?_
 unfold evs; split <;> simp
theorem bind_ge {op : Int} {f : Int → Int × Nat} {j : Int} {r : List Int} {c : Int} : (f j).2 ≤ (Je5 op f (j :: r) c).2 := by
 rw [Je5]
 split
 ·exact lR
 ·split
  ·exact lR
  ·split
   ·exact lR
   ·exact Nat.le_add_right _ _
theorem binds30_ret {a : QT} (hk : k.Ok) (h : AkO w k L s x) {op size num : Int} {name : List UInt8} {at_ : Nat} (hop : 22 ≤ op ∧ op ≤ 26) (hs0 : 0 ≤ s) (hs : s ≤ k.fuel) (hl : L.length < 1048576) (hat : at_ ≤ 1048576) (hasz : a.size ≤ 1048576)
  (hask : ∀ (w : World) (i s : Int) (x : NA), 0 ≤ s → s ≤ k.fuel → AkO w k (L ++ [(name, i)]) s x → Ret Tryz.prog 71 [ptr k.p, I (at_ + 1 : Nat)] w (fun v w' => ∃ y s' x', v = I y ∧ AkTo w k (L ++ [(name, i)]) x s' w' x' ∧ AskB k a (L ++ [(name, i)]) s y s')) :
  Ret Tryz.prog 116 [ptr k.p, .agg ⟨qC ⟨op, size, num, name⟩⟩, I at_] w (fun v w' => ∃ y s' x', v = I y ∧ AkTo w k L x s' w' x' ∧ s ≤ s' ∧ s' ≤ k.fuel + 1 + a.size ∧ AnsL k.fuel s (Je5 op (fun i => evq (qwO k.E k.R) a (setV (Je8 L) name i)) (evs (qwO k.E k.R) op) 0) y s') := by
 have hsm := (hk.ord.kp0 h.kp).small
 have hfl := hk.fl
 generalize hf : (fun i => evq (qwO k.E k.R) a (setV (Je8 L) name i)) = f
 have hn : (qwO k.E k.R).n = k.E.length := rfl
 generalize htt : Je5 op f (evs (qwO k.E k.R) op) 0 = tot
 refine Ze Tryz.call116 Tryz.func116 ?_
 refine zS ?_
 refine Zx ?_
 intro b4 w1 e4 hu1
 have k1 : Kp [] w w1 := hu1.new oM
 have g4 : Blk w1 b4 (qC ⟨op, size, num, name⟩) 81 := hu1.blk
 have z4 := h.out (b := b4) oM
 have hT1 : AkTo w k L x s w1 x := (AkTo.refl h).kp0 k1
 clear hu1
 refine zS ?_
 refine Jb4 (α := Nat × Int × Int × NA) [0, 2, 4, 7, 8] (fun y => [ptr k.p, I at_, ptr b4, I y.2.1, I y.1]) (fun y W => y.1 ≤ k.E.length ∧ 0 ≤ y.2.1 ∧ y.2.1 ≤ y.1 ∧ AkTo w k L x y.2.2.1 W y.2.2.2 ∧ Blk W b4 (qC ⟨op, size, num, name⟩) 81 ∧ (b4 ≠ k.p ∧ b4 ∉ y.2.2.2.bl) ∧ s ≤ y.2.2.1 ∧ y.2.2.1 ≤ k.fuel + 1 + a.size ∧ ((y.2.2.1 ≤ k.fuel ∧ tot.1 = (Je5 op f ((evs (qwO k.E k.R) op).drop y.1) y.2.1).1 ∧ s + tot.2 = y.2.2.1 + (Je5 op f ((evs (qwO k.E k.R) op).drop y.1) y.2.1).2) ∨ ((k.fuel : Int) < y.2.2.1 ∧ (k.fuel : Int) < s + tot.2))) (fun y => k.E.length - y.1) (0, 0, s, x) rfl ⟨Nat.zero_le _, sI, sI, hT1, g4, z4, sI, by dsimp only; omega, .inl ⟨hs, by rw [← htt, List.drop_zero], by rw [← htt, List.drop_zero]⟩⟩ ?_
 clear hT1 g4 z4 k1
 rintro ⟨i, c, si, xi⟩ e W ⟨hi, hc0, hci, hT, g4, z4, hs1, hs2, hmode⟩
 dsimp only at hi hc0 hci hT g4 z4 hs1 hs2 hmode ⊢
 have hA := hT.at_
 have hd := hA.hdr
 have ho := hk.ord.kp0 hA.kp
 refine Ja9 ?_
 refine Ja9 ?_
 refine Jd8 (α := Unit) [0, 2, 4, 7, 8, 28] (fun _ => [ptr k.p, I at_, ptr b4, I c, I i, .bool (decide (i < k.E.length) && decide (si ≤ k.fuel))]) (fun _ W' => Kp [] W W') ?_ ?_
 ·refine Jc9 Ja0 kR ?_
  refine zN hd ?_
  refine Zk (I k.E.length) (fun w1 hk' => (Jw6 (ho.kp0 hk').toRrB).mono fun v w' h => ⟨h.1, by rw [h.2]; exact hk'⟩) Tryz.call57 ?_
  refine zN hd ?_
  by_cases hlt : i < k.E.length
  ·rw [decide_eq_true (show (i : Int) < k.E.length by omega)]
   refine zN hd ?_
   intro w' hs'
   exact ⟨(), by rw [decide_eq_true hlt]; rfl, hs'⟩
  ·rw [decide_eq_false (show ¬ (i : Int) < k.E.length by omega)]
   refine zN hd ?_
   intro w' hs'
   exact ⟨(), by rw [decide_eq_false hlt]; rfl, hs'⟩
 rintro ⟨⟩ e W2 k2
 have hT := hT.kp0 k2
 have g4 := k2.b0 g4
 have hA := hT.at_
 have hd := hA.hdr
 have ho := hk.ord.kp0 hA.kp
 clear k2
 refine Je1 rfl (fun hb => ?_) (fun hb => ?_)
 ·rw [Bool.and_eq_true, decide_eq_true_eq, decide_eq_true_eq] at hb
  obtain ⟨hb1, hb2⟩ := hb
  have htot := (hmode.resolve_right (fun q => oM)).2
  rw [evs_drop _ _ (show i < (qwO k.E k.R).n from hb1), hn] at htot
  refine zk ?_
  refine Ja9 ?_
  refine r_block ?_
  refine zA ?_
  refine zg ?_
  refine Zr ?_
  refine Zr ?_
  refine zn ?_
  refine Ja9 ?_
  refine Jd8 (α := Unit) [0, 2, 4, 7, 8, 9] (fun _ => [ptr k.p, I at_, ptr b4, I c, I i, I (evE k.E.length op i)]) (fun _ W' => Kp [] W2 W') ?_ ?_
  ·refine zL g4 ?_
   refine r_if rfl (fun h26 => ?_) (fun h26 => ?_)
   ·have h26 : op = 26 := h26
    refine zL hd ?_
    refine Zc (Jw6 ho.toRrB) ?_
    rintro v w3 ⟨rfl, rfl⟩
    refine zS ?_
    exact ⟨(), by rw [show evE k.E.length op i = (k.E.length : Int) - 1 - i from by unfold evE; rw [if_pos h26]; omega]; rfl, Kp.refl _ _⟩
   ·have h26 : ¬ op = 26 := h26
    refine zS ?_
    exact ⟨(), by rw [show evE k.E.length op i = (i : Int) from by unfold evE; rw [if_neg h26]]; rfl, Kp.refl _ _⟩
  rintro ⟨⟩ e W3 k3
  have hT := hT.kp0 k3
  have g4 := k3.b0 g4
  have hA := hT.at_
  clear k3 hd ho
  generalize evE k.E.length op i = j at htot ⊢
  generalize hR : (evs (qwO k.E k.R) op).drop (i + 1) = R at htot
  refine zL g4 ?_
  refine Zc (with30_ret hk hA name j (at_ + 1) hl (Q := fun y s' => AskB k a (L ++ [(name, j)]) si y s') (fun w x h => hask w j si x oM hb2 h)) ?_
  rintro v w5 ⟨y, s', x5, rfl, hto, hq1, hq2, hq3⟩
  rw [chosen_snoc, show evq (qwO k.E k.R) a (setV (Je8 L) name j) = f j from by rw [← hf]] at hq3
  obtain ⟨g4, z4⟩ := hto.blk g4 z4
  have hT := hT.trans hto
  have hge : (f j).2 ≤ (Je5 op f (j :: R) c).2 := bind_ge
  have retL : ∀ v : Int, (y = (f j).1 → Je5 op f (j :: R) c = (v, (f j).2)) → AnsL k.fuel s tot v s' := fun v hv => by
   rcases hq3 with ⟨q1, q2, q3⟩ | ⟨q1, q2⟩
   ·rw [hv q1] at htot
    dsimp only at htot
    exact .inl ⟨htot.1.symm, oM, q3⟩
   ·exact .inr ⟨q1, oM⟩
  have nxtL : ∀ c' : Int, (y = (f j).1 → Je5 op f (j :: R) c = ((Je5 op f R c').1, (f j).2 + (Je5 op f R c').2)) → ((s' ≤ k.fuel ∧ tot.1 = (Je5 op f ((evs (qwO k.E k.R) op).drop (i + 1)) c').1 ∧ s + tot.2 = s' + (Je5 op f ((evs (qwO k.E k.R) op).drop (i + 1)) c').2) ∨ ((k.fuel : Int) < s' ∧ (k.fuel : Int) < s + tot.2)) := fun c' hv => by
   rw [hR]
   rcases hq3 with ⟨q1, q2, q3⟩ | ⟨q1, q2⟩
   ·rw [hv q1] at htot
    dsimp only at htot
    exact .inl ⟨q3, htot.1, oM⟩
   ·exact .inr ⟨q1, oM⟩
  clear hq3 htot hto hA hask hR
  by_cases hy : y = 1
  ·rw [decide_eq_true hy]
   refine zL g4 ?_
   refine r_if rfl (fun h22 => ?_) (fun h22 => ?_)
   ·have h22 : op = 22 := h22
    refine zS ?_
    exact ⟨_, rfl, 1, s', x5, rfl, hT, oM, oM, retL 1 fun q => by rw [Je5, if_neg (fun z => z.2 oM), if_pos ⟨h22, oM⟩]⟩
   have h22 : ¬ op = 22 := h22
   refine zL g4 ?_
   refine r_if rfl (fun h24 => ?_) (fun h24 => ?_)
   ·have h24 : op = 24 := h24
    refine zS ?_
    refine ⟨(i + 1, c + 1, s', x5), rfl, ⟨by dsimp only; omega, by dsimp only; omega, by dsimp only; omega, hT, g4, z4, by dsimp only; omega, by dsimp only; omega, nxtL (c + 1) fun q => ?_⟩, by dsimp only; omega⟩
    rw [Je5, if_neg (fun z => oM), if_neg (fun z => oM), if_neg (fun z => oM), show trI (decide ((f j).1 = 1)) = 1 from by rw [decide_eq_true oM]; rfl]
   have h24 : ¬ op = 24 := h24
   refine zL g4 ?_
   refine Ja5 _ _ rfl rfl rfl (fun h25 => ?_) (fun h25 => ?_)
   ·have h25 : op = 25 := of_decide_eq_true h25
    refine zS ?_
    exact ⟨_, rfl, j, s', x5, rfl, hT, oM, oM, retL j fun q => by rw [Je5, if_neg (fun z => z.2 oM), if_neg (fun z => h22 z.1), if_pos ⟨.inl h25, oM⟩]⟩
   have h25 : ¬ op = 25 := of_decide_eq_false h25
   refine zL g4 ?_
   refine r_if rfl (fun h26 => ?_) (fun h26 => ?_)
   ·have h26 : op = 26 := h26
    refine zS ?_
    exact ⟨_, rfl, j, s', x5, rfl, hT, oM, oM, retL j fun q => by rw [Je5, if_neg (fun z => z.2 oM), if_neg (fun z => h22 z.1), if_pos ⟨.inr h26, oM⟩]⟩
   have h26 : ¬ op = 26 := h26
   have h23 : op = 23 := oM
   refine zS ?_
   refine ⟨(i + 1, c, s', x5), rfl, ⟨by dsimp only; omega, by dsimp only; omega, by dsimp only; omega, hT, g4, z4, by dsimp only; omega, by dsimp only; omega, nxtL c fun q => ?_⟩, by dsimp only; omega⟩
   rw [Je5, if_neg (fun z => z.2 oM), if_neg (fun z => oM), if_neg (fun z => oM), h23, bind23 R _ c]
  ·rw [decide_eq_false hy]
   refine zL g4 ?_
   refine r_if rfl (fun h23 => ?_) (fun h23 => ?_)
   ·have h23 : op = 23 := h23
    refine zS ?_
    exact ⟨_, rfl, 0, s', x5, rfl, hT, oM, oM, retL 0 fun q => by rw [Je5, if_pos ⟨h23, oM⟩]⟩
   have h23 : ¬ op = 23 := h23
   refine zS ?_
   refine ⟨(i + 1, c, s', x5), rfl, ⟨by dsimp only; omega, by dsimp only; omega, by dsimp only; omega, hT, g4, z4, by dsimp only; omega, by dsimp only; omega, nxtL c fun q => ?_⟩, by dsimp only; omega⟩
   rw [Je5, if_neg (fun z => h23 z.1), if_neg (fun z => oM), if_neg (fun z => oM), show trI (decide ((f j).1 = 1)) = 0 from by rw [decide_eq_false oM]; rfl, Int.add_zero]
 ·have hend : AnsL k.fuel s tot (if op = 23 then 1 else if op = 25 ∨ op = 26 then -1 else c) si := by
   rcases hmode with ⟨q1, q2, q3⟩ | q
   ·have hin : i = k.E.length := by
     by_cases q : i < k.E.length
     ·rw [decide_eq_true q, decide_eq_true q1] at hb; cases hb
     ·omega
    subst hin
    rw [← hn, evs_end, Je5] at q2 q3
    exact .inl ⟨q2.symm, by dsimp only at q3; omega, q1⟩
   ·exact .inr q
  refine zL g4 ?_
  refine r_if rfl (fun h23 => ?_) (fun h23 => ?_)
  ·have h23 : op = 23 := h23
   rw [if_pos h23] at hend
   refine zS ?_
   exact ⟨_, rfl, 1, si, xi, rfl, hT, hs1, hs2, hend⟩
  have h23 : ¬ op = 23 := h23
  rw [if_neg h23] at hend
  refine zS ?_
  refine r_if rfl (fun h25 => ?_) (fun h25 => ?_)
  ·have h25 : op = 25 := h25
   rw [if_pos (.inl h25)] at hend
   refine zS ?_
   refine Jf7 rfl (decide_eq_true h25) ?_
   refine zS ?_
   exact ⟨_, rfl, -1, si, xi, rfl, hT, hs1, hs2, hend⟩
  have h25 : ¬ op = 25 := h25
  refine zS ?_
  refine r_if rfl (fun h26 => ?_) (fun h26 => ?_)
  ·have h26 : op = 26 := h26
   rw [if_pos (.inr h26)] at hend
   refine zS ?_
   exact ⟨_, rfl, -1, si, xi, rfl, hT, hs1, hs2, hend⟩
  ·have h26 : ¬ op = 26 := h26
   rw [if_neg oM] at hend
   refine zS ?_
   exact ⟨_, rfl, c, si, xi, rfl, hT, hs1, hs2, hend⟩
end
section
section
variable {t : QT} {W : QW} {σ : List UInt8 → Int}
theorem evq1 (h : Jd2 t) (ho : t.op = 1) : evq W t σ = (t.hd.num, 1) := by
 cases t with
 | n0 o m s => have ho : o = 1 := ho; subst ho; rfl
 | n1 o m s a => have ho : o = 1 := ho; have := no_n1 h; omega
 | n2 o m s a b => have ho : o = 1 := ho; have := Qf3 h; omega
theorem evq2 (h : Jd2 t) (ho : t.op = 2) : evq W t σ = (σ t.hd.name, 1) := by
 cases t with
 | n0 o m s => have ho : o = 2 := ho; subst ho; rfl
 | n1 o m s a => have ho : o = 2 := ho; have := no_n1 h; omega
 | n2 o m s a b => have ho : o = 2 := ho; have := Qf3 h; omega
theorem evq3 (h : Jd2 t) (ho : t.op = 3) : evq W t σ = ((W.n : Int), 1) := by
 cases t with
 | n0 o m s => have ho : o = 3 := ho; subst ho; rfl
 | n1 o m s a => have ho : o = 3 := ho; have := no_n1 h; omega
 | n2 o m s a b => have ho : o = 3 := ho; have := Qf3 h; omega
theorem evqb (h : Jd2 t) (ho : 22 ≤ t.op) : ∃ a, t.subs = [a] ∧ evq W t σ = ((Je5 t.op (fun i => evq W a (setV σ t.hd.name i)) (evs W t.op) 0).1, 1 + (Je5 t.op (fun i => evq W a (setV σ t.hd.name i)) (evs W t.op) 0).2) := by
 cases t with
 | n0 o m s => have ho : 22 ≤ o := ho; have := no_n0 h; omega
 | n1 o m s a => have ho : 22 ≤ o := ho; exact ⟨a, rfl, by rw [evq, if_pos ho]; rfl⟩
 | n2 o m s a b => have ho : 22 ≤ o := ho; have := Qf3 h; omega
theorem evqu (h : Jd2 t) (ho : t.op = 4 ∨ t.op = 8 ∨ t.op = 9 ∨ t.op = 10 ∨ t.op = 17) : ∃ a, t.subs = [a] ∧ evq W t σ = (oneV W t.op (evq W a σ).1, 1 + (evq W a σ).2) := by
 cases t with
 | n0 o m s => have ho : o = 4 ∨ o = 8 ∨ o = 9 ∨ o = 10 ∨ o = 17 := ho; have := no_n0 h; omega
 | n1 o m s a => have ho : o = 4 ∨ o = 8 ∨ o = 9 ∨ o = 10 ∨ o = 17 := ho; exact ⟨a, rfl, by rw [evq, if_neg oM]; rfl⟩
 | n2 o m s a b => have ho : o = 4 ∨ o = 8 ∨ o = 9 ∨ o = 10 ∨ o = 17 := ho; have := Qf3 h; omega
theorem evqn (h : Jd2 t) (h1 : 4 < t.op) (h2 : t.op < 22) (h3 : ¬ (t.op = 8 ∨ t.op = 9 ∨ t.op = 10 ∨ t.op = 17)) : ∃ a b, t.subs = [a, b] ∧ evq W t σ =
  if t.op = 18 then (if (evq W a σ).1 = 1 then (trI (decide ((evq W b σ).1 = 1)), 1 + (evq W a σ).2 + (evq W b σ).2) else (0, 1 + (evq W a σ).2))
  else if t.op = 19 then (if (evq W a σ).1 = 1 then (1, 1 + (evq W a σ).2) else (trI (decide ((evq W b σ).1 = 1)), 1 + (evq W a σ).2 + (evq W b σ).2))
  else (Qj5 W t.op (evq W a σ).1 (evq W b σ).1, 1 + (evq W a σ).2 + (evq W b σ).2) := by
 cases t with
 | n0 o m s => have h1 : 4 < o := h1; have := no_n0 h; omega
 | n1 o m s a =>
  have h1 : 4 < o := h1
  have h2 : o < 22 := h2
  have h3 : ¬ (o = 8 ∨ o = 9 ∨ o = 10 ∨ o = 17) := h3
  have := no_n1 h; omega
 | n2 o m s a b => exact ⟨a, b, rfl, by rw [evq]; rfl⟩
theorem Qf9 (h : Jd7 t = true) {a : QT} (ha : a ∈ t.subs) : Jb2 a.op.toNat = ofO t.op.toNat ∧ Jd7 a = true := by
 rw [Qn3, List.all_eq_true] at h
 have := h a ha
 rw [Bool.and_eq_true, decide_eq_true_eq] at this
 exact this
end
variable {w : World} {k : AkG} {L : List (List UInt8 × Int)} {s : Int} {x : NA}
theorem ask30_ret (hk : k.Ok) : ∀ (n : Nat) (t : QT) {w : World} {L : List (List UInt8 × Int)} {s : Int} {x : NA} {at_ : Nat}, t.size ≤ n → AkO w k L s x → Jd2 t → Jd7 t = true → SubT k.l at_ t → 0 ≤ s → s ≤ 1099511627776 → L.length + t.depth ≤ 1000000 →
  Ret Tryz.prog 71 [ptr k.p, I at_] w (fun v w' => ∃ y s' x', v = I y ∧ AkTo w k L x s' w' x' ∧ AskB k t L s y s')
 | 0, t, w, L, s, x, at_, hs, _, _, _, _, _, _, _ => absurd hs (by have := t.size_pos; omega)
 | n + 1, t, w, L, s, x, at_, hsz, h, hg, hse, hS, hs0, hsB, hdp => by
  have hfl := hk.fl
  have hop := Jm3 hg
  have hle := hS.len
  have hsp := t.size_pos
  have hrl := hk.rows.len
  have hrm := hk.rows.max_
  have hkl := Jk7 t.op.toNat
  have hhd := t.hd_op
  have hpos := evq_pos (qwO k.E k.R) t (Je8 L)
  obtain ⟨b, off, hqad, hbl, hcell⟩ := hk.rows.cellN hS.head
  have kidT : ∀ {i : Nat} {a : QT}, t.subs[i]? = some a → ∀ {W : World}, Kp [] k.w1 W → Ret Tryz.prog 112 [qV k.qad k.l.length k.qcap, I at_, I i] W (fun v w'' => v = I (Jl5 at_ t i) ∧ Kp [] W w'') := fun ha _ hk' => Qd2 (hk.rows.kp hk' sI) hS ha oM
  have askT : ∀ {i : Nat} {a : QT}, t.subs[i]? = some a → ∀ {W : World} {M : List (List UInt8 × Int)} {s : Int} {x : NA}, AkO W k M s x → 0 ≤ s → s ≤ 1099511627776 → M.length ≤ L.length + 1 → Ret Tryz.prog 71 [ptr k.p, I (Jl5 at_ t i)] W (fun v w' => ∃ y s' x', v = I y ∧ AkTo W k M x s' w' x' ∧ AskB k a M s y s') := fun ha _ _ _ _ hA h0 h1 hM =>
   have ham := List.mem_of_getElem? ha
   ask30_ret hk n _ (by have := QT.subs_size ham; omega) hA (Je7 hg ham) (Qf9 hse ham).2 (hS.kid ha) h0 h1 (by have := QT.subs_depth ham; omega)
  refine Ze Tryz.call71 Tryz.func71 ?_
  refine zL h.hdr ?_
  refine Zt (b := k.p) (off := 4) (v := I (s + 1)) rfl h.hdr sI ?_
  intro w1 hu1
  have k1 : Kp [k.p] w w1 := hu1.kp [k.p] (.inl sI)
  have hA : AkO w1 k L (s + 1) x := ⟨hu1.blk, h.kp.since k1 (fun b hb => by rw [List.mem_singleton.1 hb]; exact hk.lo), h.nm.kp k1 (fun b hb q => (h.lo b (List.mem_append_left _ hb)).2 (List.mem_singleton.1 q)), h.at_.kp k1 (fun b hb q => (h.lo b (List.mem_append_right _ hb)).2 (List.mem_singleton.1 q)), h.lo, h.ne⟩
  have hT : AkTo w k L x (s + 1) w1 x := ⟨hA, k1.mono sI, fun _ hb => .inl hb⟩
  clear hu1 k1
  refine zS ?_
  refine Ja9 ?_
  refine Ja9 ?_
  refine Jd8 (α := Unit) [0, 1, 24] (fun _ => [ptr k.p, I at_, .bool (decide ((k.fuel : Int) < s + 1))]) (fun _ W' => Kp [] w1 W') ?_ ?_
  ·refine Jc9 Ja0 kR ?_
   refine zN hA.hdr ?_
   intro w' hs'
   exact ⟨(), rfl, hs'⟩
  rintro ⟨⟩ e w2 k2
  have hT := hT.kp0 k2
  clear k2 hA
  refine r_if rfl (fun hf => ?_) (fun hf => ?_)
  ·refine zS ?_
   exact ⟨_, rfl, 0, s + 1, x, rfl, hT, oM, oM, .inr ⟨hf, oM⟩⟩
  have hA := hT.at_
  have hd := hA.hdr
  rw [hqad] at hd
  refine zL hd ?_
  refine Zm (vs := qC t.hd) rfl (fun j v hv => by rw [Ja2, ← hcell j v hv]; exact World.cell?_of_block (hA.kp.at_ b hbl sI)) ?_
  refine Za ?_
  intro b5 w3 e5 hu3
  refine Zs (b := b5) (cs := qC t.hd) rfl hu3.blk lR rfl (by simp [Value.oneCell', qC]) ?_
  intro w4 hu4
  have k24 : Kp [] w2 w4 := (hu3.new oM).since (hu4.kp [b5] (.inl sI)) (by simp; omega)
  have g5 : Blk w4 b5 [I t.op, I t.hd.size, I t.hd.num, S t.hd.name] 81 := by rw [← hhd]; exact hu4.blk
  have z5 := hA.out (b := b5) oM
  have hT := hT.kp0 k24
  clear hu3 hu4 k24 hA hd
  refine zL g5 ?_
  refine Zc (Jl0 t.op) ?_
  rintro v w5 ⟨rfl, k5⟩
  have g5 := k5.b0 g5
  have hT := hT.kp0 k5
  refine zS ?_
  refine Za ?_
  intro b6 w6 e6 hu6
  refine Zs (b := b6) (cs := rtC (rtO t.op)) rfl hu6.blk lR rfl (by simp [Value.oneCell', rtC]) ?_
  intro w7 hu7
  have k57 : Kp [] w5 w7 := (hu6.new oM).since (hu7.kp [b6] (.inl sI)) (by simp; omega)
  have hrt := Jr5 hop.1 hop.2.1
  have g6 : Blk w7 b6 [S (Ja3 t.op.toNat), I (rtO t.op).kids, I (rtO t.op).of_, I (rtO t.op).ans, .bool (Jb6 t.op.toNat)] 154 := by
   rw [← hrt.2.2.2.1, ← hrt.2.2.2.2]; exact hu7.blk
  have g5 := k57.b0 g5
  have hT := hT.kp0 k57
  clear hu6 hu7 k57 hrt k5
  have hA := hT.at_
  have done : ∀ {y : Int} {w' : World}, evq (qwO k.E k.R) t (Je8 L) = (y, 1) → Kp [] w7 w' → ∃ y' s' x', I y = I y' ∧ AkTo w k L x s' w' x' ∧ AskB k t L s y' s' := fun q hk' => ⟨_, s + 1, x, rfl, hT.kp0 hk', oM, oM, .inl (by rw [q]; exact ⟨rfl, rfl, oM⟩)⟩
  refine zL g5 ?_
  refine r_if rfl (fun h1 => ?_) (fun h1 => ?_)
  ·refine zL g5 ?_
   exact ⟨_, rfl, done (evq1 hg h1) (Kp.refl _ _)⟩
  refine zL g5 ?_
  refine r_if rfl (fun h2 => ?_) (fun h2 => ?_)
  ·refine zL g5 ?_
   refine Zc (chosen30_ret hA t.hd.name oM) ?_
   rintro v w8 ⟨rfl, k8⟩
   refine zS ?_
   exact ⟨_, rfl, done (evq2 hg h2) k8⟩
  refine zL g5 ?_
  refine r_if rfl (fun h3 => ?_) (fun h3 => ?_)
  ·refine zL hA.hdr ?_
   refine Zc (Jw6 (hk.ord.kp0 hA.kp).toRrB) ?_
   rintro v w8 ⟨rfl, rfl⟩
   refine zS ?_
   exact ⟨_, rfl, done (evq3 hg h3) (Kp.refl _ _)⟩
  clear done
  refine zL g6 ?_
  refine Je1 rfl (fun hb => ?_) (fun hb => ?_)
  ·have h22 := hop.2.2.2.1 hb
   obtain ⟨a, hks, hev⟩ := evqb (W := qwO k.E k.R) (σ := Je8 L) hg h22
   have ha : t.subs[0]? = some a := by rw [hks]; rfl
   have ham := List.mem_of_getElem? ha
   have hza := QT.subs_size ham
   have hda := QT.subs_depth ham
   refine zS ?_
   refine Zm (vs := qC ⟨t.op, t.hd.size, t.hd.num, t.hd.name⟩) rfl g5.cs ?_
   refine zS ?_
   refine o_call (binds30_ret (a := a) hk hA ⟨h22, hop.2.1⟩ oM oM oM oM oM (fun W i s' x' h0 h1 hA' => by
    have := askT ha hA' h0 oM sI
    rwa [show Jl5 at_ t 0 = at_ + 1 by simp [Jl5]] at this)) rfl rfl rfl ?_
   rintro v w8 ⟨y, s', x', rfl, hto, q1, q2, q3⟩
   refine zS ?_
   refine ⟨_, rfl, y, s', x', rfl, hT.trans hto, oM, oM, ?_⟩
   rw [hev]
   rcases q3 with ⟨q3, q4, q5⟩ | ⟨q3, q4⟩
   ·exact .inl ⟨q3, by dsimp only; omega, q5⟩
   ·exact .inr ⟨q3, by dsimp only; omega⟩
  have hnb : ¬ 22 ≤ t.op := fun q => by rw [hop.2.2.2.2 q] at hb; cases hb
  have hks : 0 < t.subs.length := by
   rw [hop.2.2.1]
   have key : ∀ j : Nat, j < 22 → 3 < j → 0 < Jc7 j := dE
   exact key _ oM oM
  obtain ⟨a, ha⟩ : ∃ a, t.subs[0]? = some a := ⟨_, List.getElem?_eq_getElem hks⟩
  have ham := List.mem_of_getElem? ha
  have hza := QT.subs_size ham
  have hga := Je7 hg ham
  have hsa := Qf9 hse ham
  refine zS ?_
  refine Jq2 (vs := [.slice k.qad k.l.length k.qcap]) rfl (fun j v hv => hA.hdr.cell (by
   have : j = 0 := by
    rcases j with _ | j
    ·rfl
    ·simp at hv
   subst this; exact hv)) rfl rfl rfl rfl rfl rfl ?_
  refine zS ?_
  refine Zc (kidT ha hA.kp) ?_
  rintro v w8 ⟨rfl, k8⟩
  refine Zc (askT ha (hA.kp0 k8) oM oM oM) ?_
  rintro v w9 ⟨y, s1, x1, rfl, hto, q1, q2, q3⟩
  obtain ⟨g5, z5⟩ := hto.blk (k8.b0 g5) z5
  have hT := (hT.kp0 k8).trans hto
  have hA := hT.at_
  clear hto k8 g6
  generalize hvE : evq (qwO k.E k.R) a (Je8 L) = ea at q3
  have hbool := evq_bool (qwO k.E k.R) a (Je8 L) hga hsa.2
  rw [hvE] at hbool
  have uno : t.op = 4 ∨ t.op = 8 ∨ t.op = 9 ∨ t.op = 10 ∨ t.op = 17 → ∀ (v : Int) (w' : World), Kp [] w9 w' → (y = ea.1 → v = oneV (qwO k.E k.R) t.op ea.1) → ∃ y' s' x', I v = I y' ∧ AkTo w k L x s' w' x' ∧ AskB k t L s y' s' := fun hu v w' hk' hv => by
   obtain ⟨a', hks', hev⟩ := evqu (W := qwO k.E k.R) (σ := Je8 L) hg hu
   rw [hks'] at ha
   cases ha
   rw [hvE] at hev
   refine ⟨v, s1, x1, rfl, hT.kp0 hk', oM, oM, ?_⟩
   rw [hev]
   rcases q3 with ⟨q3, q4, q5⟩ | ⟨q3, q4⟩
   ·exact .inl ⟨hv q3, by dsimp only; omega, q5⟩
   ·exact .inr ⟨q3, by dsimp only; omega⟩
  refine zL g5 ?_
  refine r_if rfl (fun h4 => ?_) (fun h4 => ?_)
  ·refine zA ?_
   refine zg ?_
   refine Zr ?_
   refine o_negW rfl rfl rfl ?_
   refine zS ?_
   exact ⟨_, rfl, uno (.inl h4) _ _ (Kp.refl _ _) fun q => by rw [oneV, if_pos h4, q]⟩
  refine zS ?_
  refine r_if rfl (fun h8 => ?_) (fun h8 => ?_)
  ·refine zS ?_
   refine Jf7 rfl (decide_eq_true h8) ?_
   refine zL g5 ?_
   refine Zc (Qa0 hk hA (op := t.op) oM y) ?_
   rintro v w10 ⟨rfl, k10⟩
   refine zS ?_
   exact ⟨_, rfl, uno oM _ _ k10 fun q => by rw [oneV, if_neg oM, if_neg oM, q]; try rfl⟩
  refine zS ?_
  refine r_if rfl (fun h9 => ?_) (fun h9 => ?_)
  ·refine zS ?_
   refine Jf7 rfl (decide_eq_true h9) ?_
   refine zL g5 ?_
   refine Zc (Qa0 hk hA (op := t.op) oM y) ?_
   rintro v w10 ⟨rfl, k10⟩
   refine zS ?_
   exact ⟨_, rfl, uno oM _ _ k10 fun q => by rw [oneV, if_neg oM, if_neg oM, q]; try rfl⟩
  refine zS ?_
  refine r_if rfl (fun h10 => ?_) (fun h10 => ?_)
  ·refine zL g5 ?_
   refine Zc (Qa0 hk hA (op := t.op) oM y) ?_
   rintro v w10 ⟨rfl, k10⟩
   refine zS ?_
   exact ⟨_, rfl, uno oM _ _ k10 fun q => by rw [oneV, if_neg oM, if_neg oM, q]; try rfl⟩
  refine zS ?_
  refine r_if rfl (fun h17 => ?_) (fun h17 => ?_)
  ·refine zA ?_
   refine zg ?_
   refine Zr ?_
   refine o_subW rfl rfl rfl rfl ?_
   refine zS ?_
   exact ⟨_, rfl, uno oM _ _ (Kp.refl _ _) fun q => by rw [oneV, if_neg h4, if_pos h17, q]⟩
  clear uno
  obtain ⟨a', c, hks', hev⟩ := evqn (W := qwO k.E k.R) (σ := Je8 L) hg oM oM oM
  have hc : t.subs[1]? = some c := by rw [hks']; rfl
  rw [hks'] at ha
  cases ha
  rw [hvE] at hev
  have hcm := List.mem_of_getElem? hc
  have hgc := Je7 hg hcm
  have hsc := Qf9 hse hcm
  have hzc : a.size + c.size < t.size := by
   cases t with
   | n0 => simp [QT.subs] at hks'
   | n1 => simp [QT.subs] at hks'
   | n2 o m s p q => simp [QT.subs] at hks'; obtain ⟨rfl, rfl⟩ := hks'; simp only [QT.size]; omega
  have hop2 : t.op = 5 ∨ t.op = 6 ∨ t.op = 7 ∨ t.op = 11 ∨ t.op = 12 ∨ t.op = 13 ∨ t.op = 14 ∨ t.op = 15 ∨ t.op = 16 ∨ t.op = 18 ∨ t.op = 19 ∨ t.op = 20 ∨ t.op = 21 := by
   cases t with
   | n0 => simp [QT.subs] at hks'
   | n1 => simp [QT.subs] at hks'
   | n2 o m s p q => exact Qf3 hg
  have hbool2 := evq_bool (qwO k.E k.R) c (Je8 L) hgc hsc.2
  have two : ∀ {W : World}, Kp [] w9 W → Ret Tryz.prog 71 [ptr k.p, I (Jl5 at_ t 1)] W (fun v w' => ∃ y s' x', v = I y ∧ AkTo w k L x s' w' x' ∧ (Blk w9 b5 [I t.op, I t.hd.size, I t.hd.num, S t.hd.name] 81 → Blk w' b5 [I t.op, I t.hd.size, I t.hd.num, S t.hd.name] 81) ∧ AskB k c L s1 y s') := fun hk' =>
   (askT hc (hA.kp0 hk') oM oM oM).mono fun v w' h => by
    obtain ⟨y, s', x', hv, hto, hB⟩ := h
    exact ⟨y, s', x', hv, (hT.kp0 hk').trans hto, fun g => (hto.blk (hk'.b0 g) z5).1, hB⟩
  generalize hcE : evq (qwO k.E k.R) c (Je8 L) = ec at hev hbool2
  refine zS ?_
  refine r_if rfl (fun h18 => ?_) (fun h18 => ?_)
  ·have h18 : t.op = 18 := h18
   rw [if_pos h18] at hev
   have ho2 : ofO t.op.toNat = 2 := by rw [h18]; rfl
   have hb1 := hbool (by rw [hsa.1, ho2])
   have hb2 := hbool2 (by rw [hsc.1, ho2])
   refine zS ?_
   refine r_if rfl (fun hy => ?_) (fun hy => ?_)
   ·have hy : y = 0 := hy
    refine zS ?_
    refine ⟨_, rfl, 0, s1, x1, rfl, hT, oM, oM, ?_⟩
    rw [hev]
    rcases q3 with ⟨q3, q4, q5⟩ | ⟨q3, q4⟩
    ·rw [if_neg oM]; exact .inl ⟨rfl, by dsimp only; omega, q5⟩
    ·refine .inr ⟨q3, ?_⟩
     split <;> (dsimp only; omega)
   ·have hy : ¬ y = 0 := hy
    refine zS ?_
    refine Jq2 (vs := [.slice k.qad k.l.length k.qcap]) rfl (fun j v hv => hA.hdr.cell (by
     have : j = 0 := by
      rcases j with _ | j
      ·rfl
      ·simp at hv
     subst this; exact hv)) rfl rfl rfl rfl rfl rfl ?_
    refine zS ?_
    refine Zc (kidT hc hA.kp) ?_
    rintro v w10 ⟨rfl, k10⟩
    refine Zc (two k10) ?_
    rintro v w11 ⟨y2, s2, x2, rfl, hT2, _, r1, r2, r3⟩
    rw [hcE] at r3
    refine zS ?_
    refine ⟨_, rfl, y2, s2, x2, rfl, hT2, oM, oM, ?_⟩
    rw [hev]
    rcases q3 with ⟨q3, q4, q5⟩ | ⟨q3, q4⟩
    ·rw [if_pos oM]
     rcases r3 with ⟨r3, r4, r5⟩ | ⟨r3, r4⟩
     ·refine .inl ⟨?_, by dsimp only; omega, r5⟩
      dsimp only
      rcases hb2 with e | e
      ·rw [decide_eq_false oM]; show y2 = 0; omega
      ·rw [decide_eq_true oM]; show y2 = 1; omega
     ·exact .inr ⟨r3, by dsimp only; omega⟩
    ·refine .inr ⟨oM, ?_⟩
     split <;> (dsimp only; omega)
  have h18 : ¬ t.op = 18 := h18
  rw [if_neg h18] at hev
  refine zS ?_
  refine r_if rfl (fun h19 => ?_) (fun h19 => ?_)
  ·have h19 : t.op = 19 := h19
   rw [if_pos h19] at hev
   have ho2 : ofO t.op.toNat = 2 := by rw [h19]; rfl
   have hb1 := hbool (by rw [hsa.1, ho2])
   have hb2 := hbool2 (by rw [hsc.1, ho2])
   refine zS ?_
   refine r_if rfl (fun hy => ?_) (fun hy => ?_)
   ·have hy : y = 1 := hy
    refine zS ?_
    refine ⟨_, rfl, 1, s1, x1, rfl, hT, oM, oM, ?_⟩
    rw [hev]
    rcases q3 with ⟨q3, q4, q5⟩ | ⟨q3, q4⟩
    ·rw [if_pos oM]; exact .inl ⟨rfl, by dsimp only; omega, q5⟩
    ·refine .inr ⟨q3, ?_⟩
     split <;> (dsimp only; omega)
   ·have hy : ¬ y = 1 := hy
    refine zS ?_
    refine Jq2 (vs := [.slice k.qad k.l.length k.qcap]) rfl (fun j v hv => hA.hdr.cell (by
     have : j = 0 := by
      rcases j with _ | j
      ·rfl
      ·simp at hv
     subst this; exact hv)) rfl rfl rfl rfl rfl rfl ?_
    refine zS ?_
    refine Zc (kidT hc hA.kp) ?_
    rintro v w10 ⟨rfl, k10⟩
    refine Zc (two k10) ?_
    rintro v w11 ⟨y2, s2, x2, rfl, hT2, _, r1, r2, r3⟩
    rw [hcE] at r3
    refine zS ?_
    refine ⟨_, rfl, y2, s2, x2, rfl, hT2, oM, oM, ?_⟩
    rw [hev]
    rcases q3 with ⟨q3, q4, q5⟩ | ⟨q3, q4⟩
    ·rw [if_neg oM]
     rcases r3 with ⟨r3, r4, r5⟩ | ⟨r3, r4⟩
     ·refine .inl ⟨?_, by dsimp only; omega, r5⟩
      dsimp only
      rcases hb2 with e | e
      ·rw [decide_eq_false oM]; show y2 = 0; omega
      ·rw [decide_eq_true oM]; show y2 = 1; omega
     ·exact .inr ⟨r3, by dsimp only; omega⟩
    ·refine .inr ⟨oM, ?_⟩
     split <;> (dsimp only; omega)
  have h19 : ¬ t.op = 19 := h19
  rw [if_neg h19] at hev
  refine zS ?_
  refine Ja9 ?_
  refine Qj6 (fun w' => Blk w' b5 [I t.op, I t.hd.size, I t.hd.num, S t.hd.name] 81 ∧ w'.cell? ⟨k.p, 0, none⟩ = some (.slice k.qad k.l.length k.qcap)) 14 Ja0 kR ?_
  have kd := (Sm.drew w9).kp []
  generalize ({ w9 with drawn := w9.drawn + 1 } : World) = wd at kd ⊢
  have hAd := hA.kp0 kd
  have gd := kd.b0 g5
  refine Ji9 [0, 1, 2, 3, 4, 5, 6, 7, 8, 9] 4 kR kR kR ⟨gd, hAd.hdr.cell rfl⟩ ?_
  try dsimp only [List.map_cons, List.map_nil]
  refine zX ?_
  refine Zy (v := I t.op) rfl rfl (fun w' h' => h'.1.cell rfl) ?_
  refine zX ?_
  refine x_loadA (vs := [.slice k.qad k.l.length k.qcap]) rfl rfl (fun w' h' j v hv => by
   have : j = 0 := by
    rcases j with _ | j
    ·rfl
    ·simp at hv
   subst this; cases hv; exact h'.2) rfl rfl rfl rfl rfl rfl ?_
  refine zX ?_
  refine Je4 10 kR rfl ?_
  refine Zc (kidT hc hAd.kp) ?_
  rintro v w10 ⟨rfl, k10⟩
  refine Ja6 ⟨.inr ⟨k10.b0 gd, (hAd.kp0 k10).hdr.cell rfl⟩, ?_⟩
  refine Je4 11 kR rfl ?_
  refine Zc (two (kd.trans k10)) ?_
  rintro v w11 ⟨y2, s2, x2, rfl, hT2, g11, r1, r2, r3⟩
  rw [hcE] at r3
  have g11 := g11 g5
  refine Ja6 ⟨.inr ⟨g11, hT2.at_.hdr.cell rfl⟩, ?_⟩
  refine Je4 12 kR rfl ?_
  refine Zc (two30_ret hk hT2.at_ t.op y y2 (fun _ => oM)) ?_
  rintro v w12 ⟨rfl, k12⟩
  refine Ja6 ⟨.inr ⟨k12.b0 g11, (hT2.at_.kp0 k12).hdr.cell rfl⟩, ?_⟩
  refine Je4 13 kR rfl ?_
  refine zO ?_
  refine ⟨.inl kR, Qi6 kR ?_⟩
  refine zS ?_
  refine ⟨_, rfl, _, s2, x2, rfl, hT2.kp0 k12, oM, oM, ?_⟩
  rw [hev]
  rcases q3 with ⟨q3, q4, q5⟩ | ⟨q3, q4⟩
  ·rcases r3 with ⟨r3, r4, r5⟩ | ⟨r3, r4⟩
   ·exact .inl ⟨by rw [q3, r3], by dsimp only; omega, r5⟩
   ·exact .inr ⟨r3, by dsimp only; omega⟩
  ·exact .inr ⟨oM, by dsimp only; omega⟩
end
end Go.Vc
