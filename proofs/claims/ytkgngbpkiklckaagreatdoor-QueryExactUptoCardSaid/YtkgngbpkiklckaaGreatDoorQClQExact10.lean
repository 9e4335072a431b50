/- Parts of a proof. -/
import Derived.Test.YtkgngbpkiklckaaGreatDoorQClQExact9
set_option maxHeartbeats 12800000
namespace Go.Vc
open Go Go.Proofs
set_option maxRecDepth 20000
section
variable {w : World} {p : Nat} {txt : List UInt8} {i : Nat} {k : Tok}
def PAt (w : World) (p : Nat) (txt : List UInt8) : TS → Prop
 | .tok t r => PB w p txt (t.at_ + t.text.length) t ∧ t.at_ + t.text.length ≤ txt.length ∧ r = lex txt (t.at_ + t.text.length) ∧ 1 ≤ t.text.length
 | .stop j => j = txt.length ∧ PB w p txt j ⟨[], -1, j⟩
 | .bad _ => False
theorem blank_iff (c : UInt8) : Jn2 c = (decide ((c.toNat : Int) = 32) || decide ((c.toNat : Int) = 9) || decide ((c.toNat : Int) = 10) || decide ((c.toNat : Int) = 13)) := by
 have e : ∀ d : UInt8, decide (c = d) = decide ((c.toNat : Int) = d.toNat) := fun d => by rw [decide_eq_decide, ← UInt8.toNat_inj]; omega
 unfold Jn2
 rw [e, e, e, e]; rfl
theorem tw_lt {f : UInt8 → Bool} : ∀ {l : List UInt8} {j : Nat}, j ≤ (l.takeWhile f).length → (j < (l.takeWhile f).length ↔ j < l.length ∧ f (l.getD j 0) = true)
 | [], j, h => by simp at h ⊢
 | c :: r, 0, h => by
  simp only [List.takeWhile_cons]
  cases hc : f c <;> simp [hc]
 | c :: r, j + 1, h => by
  simp only [List.takeWhile_cons] at h ⊢
  cases hc : f c with
  | false => rw [hc] at h; simp at h
  | true =>
   rw [hc] at h
   simp only [if_true, List.length_cons] at h ⊢
   have := tw_lt (f := f) (l := r) (j := j) oM
   simp only [List.getD_cons_succ]
   rw [Nat.add_lt_add_iff_right, Nat.add_lt_add_iff_right]; exact this
theorem tw_le {f : UInt8 → Bool} {l : List UInt8} : (l.takeWhile f).length ≤ l.length := (List.takeWhile_prefix (p := f) (l := l)).length_le
theorem getD_drop {l : List UInt8} {i j : Nat} : (l.drop i).getD j 0 = l.getD (i + j) 0 := by simp [List.getD_eq_getElem?_getD]
theorem run_lt {f : UInt8 → Bool} {i q : Nat} (h1 : i ≤ q) (h2 : q ≤ i + ((txt.drop i).takeWhile f).length) (hi : i ≤ txt.length) : (q < i + ((txt.drop i).takeWhile f).length) ↔ q < txt.length ∧ f (txt.getD q 0) = true := by
 have := tw_lt (f := f) (l := txt.drop i) (j := q - i) oM
 rw [getD_drop, show i + (q - i) = q by omega, List.length_drop] at this
 constructor
 ·intro h; have h3 := this.1 oM; exact ⟨oM, h3.2⟩
 ·rintro ⟨a, b⟩; have h3 := this.2 ⟨oM, b⟩; omega
theorem wu64 {x : Int} (h : 0 ≤ x ∧ x < 18446744073709551616) : IntKind.u64.wrap x = x := by
 have : IntKind.u64.wrap x = x % 18446744073709551616 := by simp [IntKind.wrap, IntKind.bits, IntKind.signed]
 rw [this]; omega
theorem wu8 {x : Int} (h : 0 ≤ x ∧ x < 256) : IntKind.u8.wrap x = x := by
 have : IntKind.u8.wrap x = x % 256 := by simp [IntKind.wrap, IntKind.bits, IntKind.signed]
 rw [this]; omega
theorem wdig {c : UInt8} {d : Nat} (h : c.toNat = d + 48) (hd : d ≤ 9) : IntKind.u64.wrap (IntKind.u8.wrap ((c.toNat : Int) - 48)) = d := by
 rw [wu8 oM, wu64 oM]; omega
theorem wovf {d : Nat} (hd : d ≤ 9) : IntKind.u64.wrap ((IntKind.u64.wrap (9223372036854775807 - (d : Int))).tdiv 10) = ((9223372036854775807 - d) / 10 : Nat) := by
 rw [wu64 (x := 9223372036854775807 - (d : Int)) oM, Int.tdiv_eq_ediv_of_nonneg oM, wu64 oM]
 omega
theorem wstep {n d : Nat} (hd : d ≤ 9) (hn : n ≤ (9223372036854775807 - d) / 10) : IntKind.u64.wrap (IntKind.u64.wrap (10 * (n : Int)) + d) = ((10 * n + d : Nat) : Int) := by
 rw [wu64 (x := 10 * (n : Int)) oM, wu64 oM]
 omega
theorem Ja2 (q : Nat) : (q : Int).toNat = q := Int.toNat_natCast q
theorem step_ret (h : PB w p txt i k) (hl : txt.length ≤ 4096) (hi : i ≤ txt.length) :
  RetP Tryz.prog 41 [ptr p] w (fun v w' => v = .tuple #[] ∧ PAt w' p txt (lex txt i) ∧ Kp [p] w w')
   (fun v w' => ∃ j : Nat, lex txt i = .bad j ∧ v = refV 300 j ∧ Kp [p] w w') := by
 have hlx := Jm5 hi
 unfold Jl3 at hlx
 have htl := tw_le (f := Jn2) (l := txt.drop i)
 rw [List.length_drop] at htl
 generalize hfq : i + ((txt.drop i).takeWhile Jn2).length = f at hlx
 have hfl : f ≤ txt.length := oM
 refine Zp Tryz.call41 Tryz.func41 ?_
 refine zS ?_
 refine Jb4 (α := Nat) [0] (fun _ => [ptr p]) (fun q W => i ≤ q ∧ q ≤ f ∧ Kp [p] w W ∧ PB W p txt q k) (fun q => f - q) i rfl ⟨lR, oM, Kp.refl _ _, h⟩ ?_
 rintro q e0 W ⟨hq1, hq2, kW, hB⟩
 have hql : q ≤ txt.length := oM
 refine Ja9 ?_
 refine Ja9 ?_
 refine Jr3 [0] [ptr p] 63 (decide (q < f)) (fun W' => Sm W W') ?_ ?_
 ·have hrun := run_lt (f := Jn2) hq1 oM hi
  rw [hfq] at hrun
  refine Jd1 Ja0 kR ?_
  refine zM hB ?_
  refine Ji0 _ _ rfl rfl rfl (fun h1 => ?_) (fun h1 => ?_)
  ·have h1 : (q : Int) < txt.length := of_decide_eq_true h1
   have fin : ∀ b : Bool, b = Jn2 (txt.getD q 0) → b = decide (q < f) := fun b hb => by
    rw [hb, Bool.eq_iff_iff, decide_eq_true_eq, hrun]
    exact ⟨fun h => ⟨oM, h⟩, fun h => h.2⟩
   rw [blank_iff] at fin
   refine zM hB ?_
   refine Ji0 _ _ rfl rfl rfl (fun h2 => ?_) (fun h2 => ?_)
   ·refine zM hB ?_
    intro w' hs
    exact ⟨rfl, ⟨_, rfl, fin _ (by rw [Ja2] at h2; rw [h2]; rfl)⟩, hs⟩
   ·refine zM hB ?_
    refine Ji0 _ _ rfl rfl rfl (fun h3 => ?_) (fun h3 => ?_)
    ·refine zM hB ?_
     intro w' hs
     exact ⟨rfl, ⟨_, rfl, fin _ (by rw [Ja2] at h2 h3; rw [h2, h3]; rfl)⟩, hs⟩
    ·refine zM hB ?_
     refine Ji0 _ _ rfl rfl rfl (fun h4 => ?_) (fun h4 => ?_)
     ·refine zM hB ?_
      intro w' hs
      exact ⟨rfl, ⟨_, rfl, fin _ (by rw [Ja2] at h2 h3 h4; rw [h2, h3, h4]; rfl)⟩, hs⟩
     ·refine zM hB ?_
      intro w' hs
      exact ⟨rfl, ⟨_, rfl, fin _ (by rw [Ja2] at h2 h3 h4; rw [h2, h3, h4]; rfl)⟩, hs⟩
  ·have h1 : ¬ (q : Int) < txt.length := of_decide_eq_false h1
   refine zM hB ?_
   intro w' hs
   exact ⟨rfl, ⟨_, rfl, by symm; rw [decide_eq_false_iff_not]; omega⟩, hs⟩
 intro e1 W1 hs1
 have hB1 : PB W1 p txt q k := hs1.blk hB
 have k1 : Kp [p] w W1 := kW.trans (hs1.kp [p])
 refine r_if rfl (fun hc => ?_) (fun hc => ?_)
 ·refine zL hB1 ?_
  refine Zt (b := p) (off := 1) (v := I ((q : Int) + 1)) rfl hB1 sI ?_
  intro W2 hu2
  refine zS ?_
  exact ⟨q + 1, rfl, ⟨oM, oM, k1.trans (hu2.kp [p] (.inl sI)), hu2.blk⟩, oM⟩
 ·have hqf : q = f := oM
  subst hqf
  clear hq1 hq2 hc hB hs1 kW
  refine zL hB1 ?_
  refine Zb [S [], I (-1), I q] ?_
  refine zS ?_
  refine Zs (b := p) (off := 2) (cs := [S [], I (-1), I q]) rfl hB1 sI rfl (by simp [Value.oneCell']) ?_
  intro W2 hu2
  have hB2 : PB W2 p txt q ⟨[], -1, q⟩ := hu2.blk
  have k2 : Kp [p] w W2 := k1.trans (hu2.kp [p] (.inl sI))
  clear hB1 hu2 k1
  refine zL hB2 ?_
  refine r_if rfl (fun hc => ?_) (fun hc => ?_)
  ·have hc : q = txt.length := oM
   refine zS ?_
   refine ⟨_, rfl, rfl, ?_, k2⟩
   rw [hlx, hc, List.drop_length]
   exact ⟨rfl, hc ▸ hB2⟩
  have hql : q < txt.length := oM
  rw [chr_get hql] at hlx
  have hch := chr_get hql
  generalize hcc : txt.getD q 0 = c at hlx hch
  dsimp only at hlx
  refine zk ?_
  refine Ja9 ?_
  refine Jd8 (α := Nat × Int) [0, 2] (fun _ => [ptr p, I q]) (fun x W => PB W p txt (q + x.1) ⟨[], x.2, q⟩ ∧ 1 ≤ x.1 ∧ q + x.1 ≤ txt.length ∧ lex txt i = .tok ⟨(txt.drop q).take x.1, x.2, q⟩ (lex txt (q + x.1)) ∧ Kp [p] w W) ?_ ?_
  ·refine zL hB2 ?_
   rw [Ja2, hcc]
   refine zS ?_
   refine Zc (Qn4 c) ?_
   rintro v w' ⟨rfl, rfl⟩
   refine zS ?_
   refine Je1 rfl (fun hlt => ?_) (fun hlt => ?_)
   ·-- a word
    have ht1 : tok1 q (c :: txt.drop (q + 1)) = some ⟨(txt.drop q).takeWhile (fun c => Jb0 c || Jb3 c), -1, q⟩ := by
     simp only [tok1, hlt, if_true, hch, List.takeWhile_cons, Bool.true_or]
    rw [ht1] at hlx
    dsimp only at hlx
    have hm := tw_le (f := fun c => Jb0 c || Jb3 c) (l := txt.drop q)
    rw [List.length_drop] at hm
    have htake : (txt.drop q).takeWhile (fun c => Jb0 c || Jb3 c) = (txt.drop q).take ((txt.drop q).takeWhile (fun c => Jb0 c || Jb3 c)).length := List.prefix_iff_eq_take.1 (List.takeWhile_prefix _)
    have hm1 : 1 ≤ ((txt.drop q).takeWhile (fun c => Jb0 c || Jb3 c)).length := by rw [hch]; simp [List.takeWhile_cons, hlt]
    generalize hmm : ((txt.drop q).takeWhile (fun c => Jb0 c || Jb3 c)).length = m at hlx hm htake hm1
    refine zS ?_
    refine Jb4 (α := Nat) [0, 2] (fun _ => [ptr p, I q]) (fun r W => q ≤ r ∧ r ≤ q + m ∧ Kp [p] w W ∧ PB W p txt r ⟨[], -1, q⟩) (fun r => q + m - r) q rfl ⟨lR, oM, k2, hB2⟩ ?_
    rintro r e0 W ⟨hr1, hr2, kW, hB⟩
    refine Ja9 ?_
    refine Ja9 ?_
    refine Jr3 [0, 2] [ptr p, I q] 132 (decide (r < q + m)) (fun W' => Sm W W') ?_ ?_
    ·have hrun := run_lt (f := fun c => Jb0 c || Jb3 c) (txt := txt) hr1 oM oM
     rw [hmm] at hrun
     refine Jd1 Ja0 kR ?_
     refine zM hB ?_
     refine Ji0 _ _ rfl rfl rfl (fun h1 => ?_) (fun h1 => ?_)
     ·have h1 : (r : Int) < txt.length := of_decide_eq_true h1
      have fin : ∀ b : Bool, b = (Jb0 (txt.getD r 0) || Jb3 (txt.getD r 0)) → b = decide (r < q + m) := fun b hb => by
       rw [hb, Bool.eq_iff_iff, decide_eq_true_eq, hrun]
       exact ⟨fun h => ⟨oM, h⟩, fun h => h.2⟩
      refine zM hB ?_
      rw [Ja2]
      refine Zk (.bool (Jb0 (txt.getD r 0))) (fun w' hw => (Qn4 (txt.getD r 0)).mono (fun v w'' ⟨h1, h2⟩ => ⟨h1, h2 ▸ hw⟩)) Tryz.call77 ?_
      refine zM hB ?_
      refine Ji0 _ _ rfl rfl rfl (fun h2 => ?_) (fun h2 => ?_)
      ·refine zM hB ?_
       intro w' hs
       exact ⟨rfl, ⟨_, rfl, fin _ (by rw [h2]; rfl)⟩, hs⟩
      ·refine zM hB ?_
       rw [Ja2]
       refine Zk (.bool (Jb3 (txt.getD r 0))) (fun w' hw => (Qf2 (txt.getD r 0)).mono (fun v w'' ⟨h1, h2⟩ => ⟨h1, h2 ▸ hw⟩)) Tryz.call78 ?_
       refine zM hB ?_
       intro w' hs
       exact ⟨rfl, ⟨_, rfl, fin _ (by rw [h2]; rfl)⟩, hs⟩
     ·have h1 : ¬ (r : Int) < txt.length := of_decide_eq_false h1
      refine zM hB ?_
      intro w' hs
      exact ⟨rfl, ⟨_, rfl, by symm; rw [decide_eq_false_iff_not]; omega⟩, hs⟩
    intro e1 W1 hs1
    have hB1 : PB W1 p txt r ⟨[], -1, q⟩ := hs1.blk hB
    have k1 : Kp [p] w W1 := kW.trans (hs1.kp [p])
    refine r_if rfl (fun hc => ?_) (fun hc => ?_)
    ·refine zL hB1 ?_
     refine Zt (b := p) (off := 1) (v := I ((r : Int) + 1)) rfl hB1 sI ?_
     intro W2 hu2
     refine zS ?_
     exact ⟨r + 1, rfl, ⟨oM, oM, k1.trans (hu2.kp [p] (.inl sI)), hu2.blk⟩, oM⟩
    ·have hrm : r = q + m := oM
     subst hrm
     refine zS ?_
     exact ⟨(m, -1), rfl, hB1, hm1, oM, by rw [hlx, htake], k1⟩
   ·refine zS ?_
    refine Zc (Qf2 c) ?_
    rintro v w' ⟨rfl, rfl⟩
    refine zS ?_
    refine Je1 rfl (fun hdg => ?_) (fun hdg => ?_)
    ·-- a number
     have ht1 : tok1 q (c :: txt.drop (q + 1)) = (Ji3 0 ((txt.drop q).takeWhile Jb3)).map fun (n : Nat) => (⟨(txt.drop q).takeWhile Jb3, (n : Int), q⟩ : Tok) := by
      simp [tok1, hlt, hdg, hch, List.takeWhile_cons]
     rw [ht1] at hlx
     have hm := tw_le (f := Jb3) (l := txt.drop q)
     rw [List.length_drop] at hm
     have htake : (txt.drop q).takeWhile Jb3 = (txt.drop q).take ((txt.drop q).takeWhile Jb3).length := List.prefix_iff_eq_take.1 (List.takeWhile_prefix _)
     have hm1 : 1 ≤ ((txt.drop q).takeWhile Jb3).length := by rw [hch]; simp [List.takeWhile_cons, hdg]
     have hat : ∀ j, j < ((txt.drop q).takeWhile Jb3).length → ((txt.drop q).takeWhile Jb3).getD j 0 = txt.getD (q + j) 0 := fun j hj => by
      rw [← getD_drop, htake, List.getD_eq_getElem?_getD, List.getD_eq_getElem?_getD, List.getElem?_take_of_lt hj]
     have hrunD := fun (r : Nat) (h1 : q ≤ r) (h2 : r ≤ q + ((txt.drop q).takeWhile Jb3).length) => run_lt (f := Jb3) (txt := txt) h1 h2 oM
     generalize hDD : (txt.drop q).takeWhile Jb3 = D at hlx hm htake hm1 hat hrunD
     generalize hmm : D.length = m at hm htake hm1 hat hrunD
     refine zS ?_
     refine Jb4 (α := Nat × Nat) [0, 2, 4] (fun x => [ptr p, I q, .int .u64 (x.2 : Int)]) (fun x W => q ≤ x.1 ∧ x.1 ≤ q + m ∧ Kp [p] w W ∧ PB W p txt x.1 ⟨[], -1, q⟩ ∧ Ji3 0 D = Ji3 x.2 (D.drop (x.1 - q)) ∧ x.2 ≤ 9223372036854775807) (fun x => q + m - x.1) (q, 0) rfl ⟨lR, by dsimp only; omega, k2, hB2, sI, sI⟩ ?_
     rintro ⟨r, n⟩ e0 W ⟨hr1, hr2, kW, hB, hacc, hn⟩
     dsimp only at hr1 hr2 hB hacc hn ⊢
     refine Ja9 ?_
     refine Ja9 ?_
     refine Jr3 [0, 2, 4] [ptr p, I q, .int .u64 (n : Int)] 164 (decide (r < q + m)) (fun W' => Sm W W') ?_ ?_
     ·have hrun := hrunD r hr1 hr2
      refine Jd1 Ja0 kR ?_
      refine zM hB ?_
      refine Ji0 _ _ rfl rfl rfl (fun h1 => ?_) (fun h1 => ?_)
      ·have h1 : (r : Int) < txt.length := of_decide_eq_true h1
       refine zM hB ?_
       rw [Ja2]
       refine Zk (.bool (Jb3 (txt.getD r 0))) (fun w' hw => (Qf2 (txt.getD r 0)).mono (fun v w'' ⟨h1, h2⟩ => ⟨h1, h2 ▸ hw⟩)) Tryz.call78 ?_
       refine zM hB ?_
       intro w' hs
       refine ⟨rfl, ⟨_, rfl, ?_⟩, hs⟩
       rw [Bool.eq_iff_iff, decide_eq_true_eq, hrun]
       exact ⟨fun h => ⟨oM, h⟩, fun h => h.2⟩
      ·have h1 : ¬ (r : Int) < txt.length := of_decide_eq_false h1
       refine zM hB ?_
       intro w' hs
       exact ⟨rfl, ⟨_, rfl, by symm; rw [decide_eq_false_iff_not]; omega⟩, hs⟩
     intro e1 W1 hs1
     have hB1 : PB W1 p txt r ⟨[], -1, q⟩ := hs1.blk hB
     have k1 : Kp [p] w W1 := kW.trans (hs1.kp [p])
     refine r_if rfl (fun hc => ?_) (fun hc => ?_)
     ·obtain ⟨hrl, hdr⟩ := (hrunD r hr1 hr2).1 hc
      have hdrop : D.drop (r - q) = txt.getD r 0 :: D.drop (r + 1 - q) := by
       have h5 := List.drop_eq_getElem_cons (l := D) (i := r - q) oM
       have h6 := hat (r - q) oM
       rw [List.getD_eq_getElem?_getD, List.getElem?_eq_getElem oM, show q + (r - q) = r by omega] at h6
       rw [h5, show r + 1 - q = r - q + 1 by omega, ← h6]; rfl
      rw [Js5, Bool.and_eq_true, decide_eq_true_eq, decide_eq_true_eq] at hdr
      generalize hcr : txt.getD r 0 = cr at hdrop hdr
      obtain ⟨d, hd9, hcd⟩ : ∃ d : Nat, d ≤ 9 ∧ cr.toNat = d + 48 := ⟨cr.toNat - 48, oM, oM⟩
      have hacc2 : Ji3 n (D.drop (r - q)) = if n ≤ (9223372036854775807 - d) / 10 then Ji3 (10 * n + d) (D.drop (r + 1 - q)) else none := by
       rw [hdrop, Ji3, show cr.toNat - 48 = d by omega]
      refine zS ?_
      refine Ja9 ?_
      refine Jd8 (α := Unit) [0, 2, 4, 5] (fun _ => [ptr p, I q, .int .u64 (n : Int), .int .u64 (d : Int)]) (fun _ W' => Sm W1 W') ?_ ?_
      ·refine Jd1 Ja0 kR ?_
       refine zM hB1 ?_
       rw [Ja2, hcr]
       intro w' hs
       refine ⟨(), ?_, hs⟩
       rw [wdig hcd hd9]
       rfl
      rintro _ e2 W2 hs2
      have hB2' : PB W2 p txt r ⟨[], -1, q⟩ := hs2.blk hB1
      have k2' : Kp [p] w W2 := k1.trans (hs2.kp [p])
      refine zS ?_
      rw [wovf hd9]
      refine r_if rfl (fun ho => ?_) (fun ho => ?_)
      ·rw [hacc2, if_neg oM] at hacc
       rw [hacc] at hlx
       refine zS ?_
       exact Jb7 (Jp2 _ _ (fun _ _ => False)) rfl rfl rfl (fun v w' ⟨h, h'⟩ => ⟨q, hlx, h, h' ▸ k2'⟩) (fun v w' h => h.elim)
      ·rw [hacc2, if_pos oM] at hacc
       refine zS ?_
       rw [wstep hd9 oM]
       refine zL hB2' ?_
       refine Zt (off := 1) rfl hB2' sI ?_
       intro W3 hu3
       refine zS ?_
       exact ⟨(r + 1, 10 * n + d), rfl, ⟨by dsimp only; omega, by dsimp only; omega, k2'.trans (hu3.kp [p] (.inl sI)), hu3.blk, hacc, by dsimp only; omega⟩, by dsimp only; omega⟩
     ·have hrm : r = q + m := oM
      subst hrm
      rw [show q + m - q = m by omega, ← hmm, List.drop_length] at hacc
      rw [hacc] at hlx
      dsimp only [Ji3, Option.map_some] at hlx
      rw [hmm] at hlx
      refine zL hB1 ?_
      refine Zt (off := 3) rfl hB1 sI ?_
      intro W3 hu3
      refine zS ?_
      exact ⟨(m, n), rfl, hu3.blk, hm1, by dsimp only; omega, by dsimp only; rw [hlx, htake], k1.trans (hu3.kp [p] (.inl sI))⟩
    ·-- a mark
     have ht1 : tok1 q (c :: txt.drop (q + 1)) = if Jc2 (txt.drop q) = 0 then none else some ⟨(txt.drop q).take (Jc2 (txt.drop q)), -1, q⟩ := by
      simp [tok1, hlt, hdg, hch]
     rw [ht1] at hlx
     refine zS ?_
     refine Jb7 (show RetP Tryz.prog _ [ptr p, Y c] w' _ _ from hcc ▸ mark_ret hB2 hl hql) rfl rfl rfl (fun v w' hh => ?_) ?_
     ·obtain ⟨h1, h2, h3⟩ := hh
      rw [if_pos h1] at hlx
      exact ⟨q, hlx, h2, k2.trans h3⟩
     rintro v w3 ⟨rfl, h1, h2, h3⟩
     rw [if_neg h1] at hlx
     dsimp only at hlx
     have hmk : 1 ≤ Jc2 (txt.drop q) ∧ Jc2 (txt.drop q) ≤ txt.length - q := by
      refine ⟨oM, ?_⟩
      rw [mark_at hql]
      have : ∀ {z : Option UInt8}, txt[q + 1]? = z → z = some 61 → q + 1 < txt.length := fun h1 h2 => by
       rw [h2] at h1; exact (List.getElem?_eq_some_iff.1 h1).1
      split
      ·split
       ·have := this rfl (by assumption); omega
       ·omega
      ·split
       ·split
        ·have := this rfl (by assumption); omega
        ·omega
       ·split <;> omega
     refine zS ?_
     exact ⟨(Jc2 (txt.drop q), -1), rfl, h2, by dsimp only; omega, by dsimp only; omega, by dsimp only; rw [hlx]; simp only [List.length_take, List.length_drop]; rw [show min (Jc2 (txt.drop q)) (txt.length - q) = Jc2 (txt.drop q) by omega], k2.trans h3⟩
  ·rintro ⟨m, n⟩ e1 W ⟨hB, hm1, hm2, hlx2, kW⟩
   dsimp only at hB hm1 hm2 hlx2
   refine Je9 Ja0 rfl kR kR ?_
   refine zM hB ?_
   intro w' hs
   have hB' : PB w' p txt (q + m) ⟨[], n, q⟩ := hs.blk hB
   refine Zt (b := p) (off := 2) rfl hB' sI ?_
   intro W3 hu3
   have etx : (txt.take ((q + m : Nat) : Int).toNat).drop (q : Int).toNat = (txt.drop q).take m := by
    rw [Ja2, Ja2, List.drop_take]; congr 1; omega
   rw [etx] at hu3
   refine zS ?_
   refine ⟨_, rfl, rfl, ?_, (kW.trans (hs.kp [p])).trans (hu3.kp [p] (.inl sI))⟩
   rw [hlx2]
   have hln : ((txt.drop q).take m).length = m := by simp; omega
   exact ⟨by rw [hln]; exact hu3.blk, by rw [hln]; exact hm2, by rw [hln], by rw [hln]; exact hm1⟩
end
section
variable {w : World} {p : Nat} {txt : List UInt8} {s : TS}
def TS.hd : TS → Tok
 | .tok t _ => t
 | .stop j => ⟨[], -1, j⟩
 | .bad j => ⟨[], -1, j⟩
def TS.ix : TS → Nat
 | .tok t _ => t.at_ + t.text.length
 | .stop j => j
 | .bad j => j
theorem PAt.pb (h : PAt w p txt s) : PB w p txt s.ix s.hd := by
 cases s with
 | tok t r => exact h.1
 | stop j => exact h.2
 | bad j => exact h.elim
theorem PAt.kp {w' : World} {F : List Nat} (h : PAt w p txt s) (hk : Kp F w w') (hp : p ∉ F) : PAt w' p txt s := by
 cases s with
 | tok t r => exact ⟨hk.blk hp h.1, h.2⟩
 | stop j => exact ⟨h.1, hk.blk hp h.2⟩
 | bad j => exact h.elim
def OutE {α : Type} (r : Except (Int × Int) α) (p : Nat) (w : World) : Value → World → Prop := fun v w' => ∃ c i : Int, r = .error (c, i) ∧ v = refV c i ∧ Kp [p] w w'
theorem Js9 (h : PAt w p txt s) (hl : txt.length ≤ 4096) : RetP Tryz.prog 41 [ptr p] w (fun v w' => v = .tuple #[] ∧ (∃ s', adv s = .ok s' ∧ PAt w' p txt s') ∧ Kp [p] w w') (OutE (adv s) p w) := by
 cases s with
 | tok t r =>
  obtain ⟨h1, h2, rfl, _⟩ := h
  refine (step_ret h1 hl h2).mono ?_ ?_
  ·rintro v w' ⟨hv, hp, hk⟩
   refine ⟨hv, ⟨_, ?_, hp⟩, hk⟩
   cases hx : lex txt (t.at_ + t.text.length) with
   | bad j => rw [hx] at hp; exact hp.elim
   | stop j => rfl
   | tok u r => rfl
  ·rintro v w' ⟨j, hj, hv, hk⟩
   exact ⟨300, j, by rw [hj]; rfl, hv, hk⟩
 | stop j =>
  obtain ⟨rfl, h2⟩ := h
  have hx : lex txt txt.length = .stop txt.length := by rw [Jm5 lR, List.drop_length]; simp [Jl3]
  refine (step_ret h2 hl lR).mono ?_ ?_
  ·rintro v w' ⟨hv, hp, hk⟩
   exact ⟨hv, ⟨_, rfl, hx ▸ hp⟩, hk⟩
  ·rintro v w' ⟨j, hj, _⟩
   rw [hx] at hj; cases hj
 | bad j => exact h.elim
theorem is_hd {word : List UInt8} (hw : word ≠ []) : s.is word = (decide (s.hd.text = word) && decide (s.hd.num < 0)) := by
 cases s with
 | tok t r => rfl
 | stop j => simp [TS.is, TS.hd, Ne.symm hw]
 | bad j => simp [TS.is, TS.hd, Ne.symm hw]
theorem Qn5 {word : List UInt8} (hw : word ≠ []) (h : PAt w p txt s) (hl : txt.length ≤ 4096) : RetP Tryz.prog 156 [ptr p, S word] w
  (fun v w' => Kp [p] w w' ∧ ((s.is word = true ∧ v = .bool true ∧ ∃ s', adv s = .ok s' ∧ PAt w' p txt s') ∨ (s.is word = false ∧ v = .bool false ∧ PAt w' p txt s))) (fun v w' => s.is word = true ∧ OutE (adv s) p w v w') := by
 have hB := h.pb
 rw [is_hd hw]
 refine Zp Tryz.call156 Tryz.func156 ?_
 refine zL hB ?_
 refine Ja5 _ _ rfl rfl rfl (fun h1 => ?_) (fun h1 => ?_)
 ·have h1 : ¬ s.hd.text = word := by simpa using h1
  refine zL hB ?_
  exact ⟨_, rfl, Kp.refl _ _, .inr ⟨by simp [h1], rfl, h⟩⟩
 ·have h1 : s.hd.text = word := by simpa using h1
  refine zL hB ?_
  refine r_if rfl (fun h2 => ?_) (fun h2 => ?_)
  ·refine zL hB ?_
   exact ⟨_, rfl, Kp.refl _ _, .inr ⟨by simp [h1]; omega, rfl, h⟩⟩
  ·refine zS ?_
   refine Jb7 (Js9 h hl) rfl rfl rfl (fun v w' hh => ⟨by simp [h1]; omega, hh⟩) ?_
   rintro v w1 ⟨rfl, hs, hk⟩
   refine zS ?_
   exact ⟨_, rfl, hk, .inl ⟨by simp [h1]; omega, rfl, hs⟩⟩
theorem Ju0 {word : List UInt8} (hw : word ≠ []) (h : PAt w p txt s) (hl : txt.length ≤ 4096) : RetP Tryz.prog 205 [ptr p, S word] w
  (fun v w' => v = .tuple #[] ∧ (∃ s', Jc4 s word = .ok s' ∧ PAt w' p txt s') ∧ Kp [p] w w') (OutE (Jc4 s word) p w) := by
 unfold Jc4
 refine Zp Tryz.call205 Tryz.func205 ?_
 refine zS ?_
 refine Jb7 (Qn5 hw h hl) rfl rfl rfl (fun v w' hh => by rw [if_pos hh.1]; exact hh.2) ?_
 rintro v w1 ⟨hk, ⟨h1, rfl, h2⟩ | ⟨h1, rfl, h2⟩⟩
 ·refine zS ?_
  exact ⟨_, rfl, rfl, by rw [if_pos h1]; exact h2, hk⟩
 ·refine zS ?_
  refine Jb7 (Jz5 h2.pb (fun _ _ => False)) rfl rfl rfl (fun v w' ⟨h3, h4⟩ => ?_) (fun v w' h => h.elim)
  rw [h1, if_neg sI]
  exact ⟨301, s.pos, rfl, by rw [h3]; cases s <;> rfl, h4 ▸ hk⟩
end
end Go.Vc
namespace Go.Vc
open Go
variable {w : World} {α : Type} {f : α → List Value} {m : Nat}
theorem flC_len (hf : ∀ x, (f x).length = m) (l : List α) : (l.flatMap f).length = l.length * m := by
 induction l with
 | nil => simp
 | cons x r ih => rw [List.flatMap_cons, List.length_append, ih, hf, List.length_cons, Nat.succ_mul]; omega
theorem flC_at (hf : ∀ x, (f x).length = m) (h0 : 0 < m) : ∀ (l : List α) (k : Nat), (l.flatMap f)[k]? = (l[k / m]?).bind fun x => (f x)[k % m]?
 | [], k => sI
 | y :: r, k => by
  rw [List.flatMap_cons]
  by_cases hk : k < m
  ·rw [List.getElem?_append_left (by rw [hf]; exact hk), Nat.div_eq_of_lt hk, Nat.mod_eq_of_lt hk]; rfl
  ·obtain ⟨k', rfl⟩ : ∃ k', k = k' + m := ⟨k - m, oM⟩
   rw [List.getElem?_append_right (by rw [hf]; omega), hf, Nat.add_sub_cancel, flC_at hf h0 r k', Nat.add_div_right _ h0, Nat.add_mod_right]
   rfl
theorem Jm9 (hf : ∀ x, (f x).length = m) {l : List α} {i j : Nat} {x : α} {v : Value} (hx : l[i]? = some x) (hv : (f x)[j]? = some v) : (l.flatMap f)[i * m + j]? = some v := by
 have hj : j < m := by rw [← hf x]; exact (List.getElem?_eq_some_iff.1 hv).1
 have e1 : (i * m + j) / m = i := by rw [Nat.mul_comm, Nat.mul_add_div oM, Nat.div_eq_of_lt hj]; omega
 have e2 : (i * m + j) % m = j := by rw [Nat.mul_comm, Nat.mul_add_mod, Nat.mod_eq_of_lt hj]
 rw [flC_at hf oM, e1, e2, hx]
 exact hv
theorem flC_set (hf : ∀ x, (f x).length = m) (h0 : 0 < m) {l : List α} {i : Nat} (x : α) (hi : i < l.length) (junk : List Value) : Jg0 (l.flatMap f ++ junk) (i * m) (f x) = (l.set i x).flatMap f ++ junk := by
 have hl := flC_len hf l
 have hl2 := flC_len hf (l.set i x)
 rw [List.length_set] at hl2
 have him : i * m + m ≤ l.length * m := by rw [← Nat.succ_mul]; exact Nat.mul_le_mul_right m hi
 apply List.ext_getElem?
 intro k
 rw [Jv4 _ _ _ _ (by rw [List.length_append, hf]; omega), hf]
 by_cases hk : i * m ≤ k ∧ k < i * m + m
 ·obtain ⟨j, rfl⟩ : ∃ j, k = i * m + j := ⟨k - i * m, oM⟩
  have hj : j < m := oM
  have e1 : (i * m + j) / m = i := by rw [Nat.mul_comm, Nat.mul_add_div oM, Nat.div_eq_of_lt hj]; omega
  have e2 : (i * m + j) % m = j := by rw [Nat.mul_comm, Nat.mul_add_mod, Nat.mod_eq_of_lt hj]
  rw [if_pos hk, List.getElem?_append_left oM, flC_at hf h0, e1, e2, List.getElem?_set_self hi, Nat.add_sub_cancel_left]; rfl
 ·rw [if_neg hk]
  by_cases hk2 : k < l.length * m
  ·rw [List.getElem?_append_left oM, List.getElem?_append_left oM, flC_at hf h0, flC_at hf h0]
   have : k / m ≠ i := by
    rintro rfl
    have e := Nat.div_add_mod k m
    have h2 := Nat.mod_lt k h0
    rw [Nat.mul_comm] at e
    omega
   rw [List.getElem?_set_ne (fun e => this e.symm)]
  ·rw [List.getElem?_append_right oM, List.getElem?_append_right oM, hl, hl2]
theorem set1_many (L : List Value) (i : Nat) (v : Value) : Jg0 L i [v] = L.set i v := rfl
theorem OwnS.rec {T : TypeId} {ad : Option Addr} {cap : Nat} {l : List α} (h : OwnS w T m ad l.length cap (l.flatMap f)) (hf : ∀ x, (f x).length = m) (h0 : 0 < m) {i : Nat} (hi : i < l.length) :
  ∃ b L, ad = some ⟨b, 0, none⟩ ∧ Blk w b L T ∧ i * m + m ≤ L.length ∧ (∀ x, l[i]? = some x → ∀ j v, (f x)[j]? = some v → L[i * m + j]? = some v) ∧
   ∀ x w', Upd w b (.cells ⟨Jg0 L (i * m) (f x)⟩ T (0, 0)) w' → OwnS w' T m ad l.length cap ((l.set i x).flatMap f) := by
 have hl := flC_len hf l
 have him : i * m + m ≤ l.length * m := by rw [← Nat.succ_mul]; exact Nat.mul_le_mul_right m hi
 cases ad with
 | none => obtain ⟨h1, _⟩ := h.2; omega
 | some ad =>
  obtain ⟨b, off, spot⟩ := ad
  obtain ⟨h1, h2, h3, h4, junk, h5, h6⟩ := h.2
  dsimp only at h1 h2 h5
  subst h1 h2
  refine ⟨b, l.flatMap f ++ junk, rfl, h5, by rw [List.length_append]; omega, fun x hx j v hv => ?_, fun x w' hu => ?_⟩
  ·have := Jm9 hf hx hv
   rw [List.getElem?_append_left (List.getElem?_eq_some_iff.1 this).1]; exact this
  ·have hl2 := flC_len hf (l.set i x)
   rw [List.length_set] at hl2
   refine ⟨hl2, rfl, rfl, h3, h4, junk, ?_, ?_⟩
   ·have := hu.blk
    rw [flC_set hf h0 x hi] at this
    exact this
   ·rw [List.length_append] at h6 ⊢; omega
theorem Jj4 (L : List Value) {o j : Nat} {cs : List Value} {v : Value} (hL : ∀ j' v', cs[j']? = some v' → L[o + j']? = some v') (hlen : o + cs.length ≤ L.length) (hj : j < cs.length) : Jg0 L o (cs.set j v) = L.set (o + j) v := by
 apply List.ext_getElem?
 intro k
 rw [Jv4 _ _ _ _ (by simpa using hlen), List.length_set]
 by_cases hk : o ≤ k ∧ k < o + cs.length
 ·rw [if_pos hk]
  obtain ⟨r, rfl⟩ : ∃ r, k = o + r := ⟨k - o, oM⟩
  rw [Nat.add_sub_cancel_left]
  by_cases hr : j = r
  ·subst hr
   rw [List.getElem?_set_self hj, List.getElem?_set_self oM]
  ·have hr2 : r < cs.length := oM
   rw [List.getElem?_set_ne hr, List.getElem?_set_ne oM, List.getElem?_eq_getElem hr2, hL r _ (List.getElem?_eq_getElem hr2)]
 ·rw [if_neg hk, List.getElem?_set_ne oM]
theorem OwnS.readN {T : TypeId} {size : Nat} {ad : Option Addr} {n cap : Nat} {xs : List Value} (h : OwnS w T size ad n cap xs) : Ja7 w ad xs := by
 cases ad with
 | none =>
  obtain ⟨h0, h1⟩ := h
  obtain ⟨h2, _⟩ := h1
  subst h2
  exact List.eq_nil_of_length_eq_zero oM
 | some ad =>
  obtain ⟨b, off, spot⟩ := ad
  obtain ⟨_, h1, h2, _, _, junk, h5, _⟩ := h
  dsimp only at h1 h2 h5
  subst h1 h2
  refine Ja7.mk fun i v hv => ?_
  rw [Nat.zero_add]
  exact h5.cell (by rw [List.getElem?_append_left (List.getElem?_eq_some_iff.1 hv).1]; exact hv)
def upB (f : Nat → Bool) (k : Nat) (b : Bool) (i : Nat) : Bool := if i = k then b else f i
def bl (f : Nat → Bool) (n : Nat) : List Value := (List.range n).map fun i => .bool (f i)
theorem Qh0 (f : Nat → Bool) (n : Nat) : (bl f n).length = n := by simp [bl]
theorem Qb6 (f : Nat → Bool) {n i : Nat} (h : i < n) : (bl f n)[i]? = some (.bool (f i)) := by simp [bl, h]
theorem bl_set (f : Nat → Bool) (n i : Nat) (b : Bool) : (bl f n).set i (.bool b) = bl (upB f i b) n := by
 apply List.ext_getElem?
 intro j
 by_cases hj : j < n
 ·rw [Qb6 _ hj]
  by_cases hij : i = j
  ·subst hij
   rw [List.getElem?_set_self (by rw [Qh0]; exact hj)]; simp [upB]
  ·rw [List.getElem?_set_ne hij, Qb6 _ hj]
   simp [upB, show ¬ j = i from fun h => hij h.symm]
 ·rw [List.getElem?_eq_none (by rw [List.length_set, Qh0]; omega), List.getElem?_eq_none (by rw [Qh0]; omega)]
theorem Jq1 {f g : Nat → Bool} {n : Nat} (h : ∀ i, i < n → f i = g i) : bl f n = bl g n := by
 unfold bl
 apply List.map_congr_left
 intro i hi
 rw [h i (by simpa using hi)]
theorem bl_false (n : Nat) : List.replicate n (Value.bool false) = bl (fun _ => false) n := by
 apply List.ext_getElem?
 intro i
 rw [List.getElem?_replicate]
 by_cases hi : i < n
 ·rw [if_pos hi, Qb6 _ hi]
 ·rw [if_neg hi, List.getElem?_eq_none (by rw [Qh0]; omega)]
open Classical in
noncomputable def Jp1 (p : Prop) : Bool := decide p
open Classical in
theorem Ji4 {p : Prop} : Jp1 p = true ↔ p := @decide_eq_true_iff _ _
theorem Jm8 {p q : Prop} (h : p ↔ q) : Jp1 p = Jp1 q := by rw [Bool.eq_iff_iff, Ji4, Ji4]; exact h
end Go.Vc

