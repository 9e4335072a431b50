/- Parts of a proof. -/
import Derived.Test.YtkgngbpkiklckaaGreatDoorQClQExact17
set_option maxHeartbeats 12800000
namespace Go.Vc
open Go Go.Proofs
set_option maxRecDepth 20000
section
variable {w : World}
theorem dec_len : ∀ (n u : Nat), u < 10 ^ (n + 1) → (Lib.decDigits u).length ≤ n + 1
 | 0, u, h => by
  rw [Lib.decDigits_one oM]; simp
 | n + 1, u, h => by
  by_cases h10 : u < 10
  ·rw [Lib.decDigits_one h10]; simp
  ·rw [Qk6 h10, List.length_append]
   have := dec_len n (u / 10) (by rw [Nat.pow_succ] at h; omega)
   simp; omega
theorem Jq6 (t : QT) : (brkM t).length ≤ (Jc8 t).length + 2 := by
 unfold brkM brk
 split
 ·omega
 ·simp
theorem Jz6 (k : Nat) : (Ja3 k).length ≤ 6 := by
 by_cases h : k < 27
 ·have hall : ∀ k ∈ List.range 27, (Ja3 k).length ≤ 6 := dE
  exact hall k (List.mem_range.2 h)
 ·have : Ja3 k = [] := by
   unfold Ja3
   split <;> first | omega | rfl
  rw [this]; simp
theorem Jg2 : ∀ t : QT, Jd2 t → (Jc8 t).length ≤ 64 * t.size
 | .n0 op num name, hg => by
  rcases hg with ⟨rfl, h1, h2, _⟩ | ⟨rfl, _, h2⟩ | ⟨rfl, _, _⟩
  ·have := dec_len 19 num.toNat oM
   show (Lib.decDigits num.toNat).length ≤ 64 * 1
   omega
  ·unfold Jc5 at h2
   simp only [Bool.and_eq_true, decide_eq_true_eq] at h2
   obtain ⟨⟨⟨⟨⟨_, h3⟩, _⟩, _⟩, _⟩, _⟩ := h2
   show name.length ≤ 64 * 1
   omega
  ·show (Ja3 3).length ≤ 64 * 1
   decide
 | .n1 op num name a, hg => by
  have ih := Jg2 a hg.2.1
  have hb := Jq6 a
  have hw := Jz6 op.toNat
  have hn : name.length ≤ 24 := by
   rcases hg.2.2 with ⟨_, h⟩ | ⟨_, h⟩
   ·rw [h]; simp
   ·unfold Jc5 at h
    simp only [Bool.and_eq_true, decide_eq_true_eq] at h
    exact h.1.1.1.1.2
  unfold brkM at hb
  rw [Jc8]
  simp only [QT.size]
  split
  ·simp only [List.length_append, List.length_cons, List.length_nil]; omega
  ·split
   ·simp only [List.length_append, List.length_cons, List.length_nil]; omega
   ·have : (if op = 17 then [(32 : UInt8)] else []).length ≤ 1 := by split <;> simp
    simp only [List.length_append]; omega
 | .n2 op num name a b, hg => by
  have iha := Jg2 a hg.2.1
  have ihb := Jg2 b hg.2.2.1
  have ha := Jq6 a
  have hb := Jq6 b
  have hw := Jz6 op.toNat
  unfold brkM at ha hb
  rw [Jc8]
  simp only [QT.size]
  split <;> (simp only [List.length_append, List.length_cons, List.length_nil]; omega)
def Ju8 (l : List QN) : List UInt8 × Int :=
 match Qk9 l with
 | .error c => ([], c)
 | .ok s => (s, 0)
theorem Qi5 {l : List QN} {ad : Option Addr} {cap : Nat} (hA : AscW w) (hP : PowQ w) (hR : Rows w ad cap l) :
  Ret Tryz.prog 11 [qV ad l.length cap] w (fun v w' => v = .tuple #[S (Ju8 l).1, I (Ju8 l).2] ∧ Kp [] w w') := by
 have hm := hR.max_
 have hpr : Qk9 l = match Jh1 l with | none => .error 305 | some t => if 4096 < l.length then .error 3 else if 4096 < (Jc8 t).length then .error 3 else .ok (Jc8 t) := rfl
 unfold Ju8
 refine Ze Tryz.call11 Tryz.func11 ?_
 refine zS ?_
 refine Zx ?_
 intro b w1 hb hu1
 have k1 : Kp [] w w1 := hu1.new oM
 have hb1 : Blk w1 b [.slice ad l.length cap] 24 := hu1.blk
 refine zS ?_
 refine Zm (vs := [.slice ad l.length cap]) rfl hb1.cs ?_
 refine Zc (Qe6 (hA.kp k1 sI) (hR.read.kp k1 sI) hR.cap_ oM hR.name) ?_
 rintro v w2 ⟨hv, k2⟩
 cases hw : Jh1 l with
 | none =>
  rw [hw] at hv hpr
  have hv : v = .pointer none := hv
  subst hv
  rw [hpr]
  refine zS ?_
  exact ⟨_, rfl, rfl, k1.trans k2⟩
 | some t =>
  rw [hw] at hv hpr
  obtain ⟨p, rfl, hT⟩ := hv
  obtain ⟨hg, hrow, hd⟩ := Jm7 hR.num hw
  have hsz : t.size = l.length := by rw [hrow, QT.rows_len]
  have hb2 := k2.b0 hb1
  refine zL hb2 ?_
  refine r_if rfl (fun hc => ?_) (fun hc => ?_)
  ·have hpr : Qk9 l = .error 3 := by rw [hpr]; exact if_pos oM
   rw [hpr]
   refine zS ?_
   exact ⟨_, rfl, rfl, k1.trans k2⟩
  have hpr : Qk9 l = if 4096 < (Jc8 t).length then .error 3 else .ok (Jc8 t) := by rw [hpr]; exact if_neg oM
  have htl := Jg2 t hg
  refine zS ?_
  refine Za ?_
  intro bb w3 hbb hu3
  have k3 : Kp [] w2 w3 := hu3.new oM
  have hbd : BdAt w2 w3 bb [] := ⟨.inl ⟨oM, .slice none 0 0, hu3.at_, ⟨rfl, .inl ⟨rfl, rfl⟩⟩, by simp [Value.ownBlock]⟩, k3⟩
  refine zS ?_
  refine Zc (text_ok t (hP.kp (k1.trans k2) sI) hT hg hbd (by simp; omega)) ?_
  rintro v w4 ⟨rfl, hb4⟩
  rw [List.nil_append] at hb4
  refine zS ?_
  refine Zc (BLen_ret hb4.toBdAt) ?_
  rintro v w4' ⟨rfl, rfl⟩
  refine zS ?_
  refine r_if rfl (fun hc2 => ?_) (fun hc2 => ?_)
  ·rw [hpr, if_pos oM]
   refine zS ?_
   exact ⟨_, rfl, rfl, (k1.trans k2).trans hb4.kp⟩
  ·rw [hpr, if_neg oM]
   refine zS ?_
   refine Zc (BString_ret hb4.toBdAt) ?_
   rintro v w5 ⟨rfl, hb5⟩
   refine zS ?_
   exact ⟨_, rfl, rfl, (k1.trans k2).trans hb5.kp⟩
theorem CloneQ_ret {ad : Option Addr} {l : List QN} {cap : Nat} (h : Ja7 w ad (l.flatMap qC)) (hl : l.length ≤ 1048576) :
  Ret Tryz.prog 60 [.slice ad l.length cap] w (fun v w' => ∃ ad' cap', v = .slice ad' l.length cap' ∧ OwnS w' 81 4 ad' l.length cap' (l.flatMap qC) ∧ Kp [] w w' ∧ ∀ b, b ∈ Ja1 ad' → w.heap.size ≤ b) := by
 have hlen := Jf5 l
 refine Ze Tryz.call60 Tryz.func60 ?_
 refine zS ?_
 cases ad with
 | none =>
  have h0 : l.flatMap qC = [] := by simpa [Ja7] using h
  have hl0 : l = [] := by
   apply List.eq_nil_of_length_eq_zero
   rw [h0] at hlen; simp at hlen; omega
  subst hl0
  refine zS ?_
  exact ⟨_, rfl, none, 0, rfl, Jd6 _ _ _, Kp.refl _ _, by simp [Ja1]⟩
 | some a =>
  refine zS ?_
  refine Jf0 rfl rfl rfl rfl ?_
  intro b w1 hb hu1
  have k1 : Kp [] w w1 := hu1.new oM
  have ho1 : OwnS w1 81 4 (some ⟨b, 0, none⟩) 0 0 [] := ⟨rfl, rfl, rfl, lR, by simp [maxLen], [], hu1.blk, rfl⟩
  refine zS ?_
  refine Jg7 (k := 0) (l.flatMap qC) rfl rfl ho1 (h.kp k1 sI) rfl rfl rfl dE hlen (fun v hv => by
   obtain ⟨x, _, hx⟩ := List.mem_flatMap.1 hv
   simp [qC] at hx
   rcases hx with rfl | rfl | rfl | rfl <;> rfl) (by simp only [maxLen]; omega) oM rfl rfl ?_
  intro ad' cap' w2 ho2 k2 hn2
  refine zS ?_
  rw [Nat.zero_add] at ho2 ⊢
  have hnew : ∀ b, b ∈ Ja1 ad' → w.heap.size ≤ b := fun c hc => by
   have := k1.size
   rcases hn2 c hc with h | h
   ·simp [Ja1] at h; omega
   ·omega
  exact ⟨_, rfl, ad', cap', rfl, ho2, k1.since k2 (by simp [Ja1]; omega), hnew⟩
def renN (a c : List UInt8) (x : QN) : QN := if x.name = a then { x with name := c } else x
def renM (l : List QN) (a c : List UInt8) : Except Int (List QN) :=
 match Jh1 l with
 | none => .error 305
 | some _ => if Jc5 a = false ∨ Jc5 c = false then .error 303 else .ok (l.map (renN a c))
def RenV (r : Except Int (List QN)) (w : World) (v : Value) (w' : World) : Prop :=
 match r with
 | .ok l => ∃ ad cap, v = .tuple #[qV ad l.length cap, I 0] ∧ OwnS w' 81 4 ad l.length cap (l.flatMap qC) ∧ ∀ b ∈ Ja1 ad, w.heap.size ≤ b
 | .error c => v = .tuple #[qV none 0 0, I c]
theorem Qo1 {l : List QN} {ad : Option Addr} {cap : Nat} (hA : AscW w) (hR : Rows w ad cap l) (a c : List UInt8) (ha : a.length ≤ 9223372036854775806) (hcl : c.length ≤ 9223372036854775806) :
  Ret Tryz.prog 26 [qV ad l.length cap, S a, S c] w (fun v w' => RenV (renM l a c) w v w' ∧ Kp [] w w') := by
 have hm := hR.max_
 have hcap := hR.cap_
 have hren : renM l a c = match Jh1 l with | none => .error 305 | some _ => if Jc5 a = false ∨ Jc5 c = false then .error 303 else .ok (l.map (renN a c)) := rfl
 refine Zd Tryz.call26 Tryz.func26 ?_
 refine zS ?_
 refine Zx ?_
 intro b w1 hb hu1
 have k1 : Kp [] w w1 := hu1.new oM
 have hb1 : Blk w1 b [.slice ad l.length cap] 24 := hu1.blk
 refine Za ?_
 intro q w2 hq hu2
 have k2 : Kp [] w w2 := k1.trans (hu2.new oM)
 have hbq : b ≠ q := by have := hu1.lt; omega
 have hb2 : Blk w2 b [.slice ad l.length cap] 24 := hu2.kept hbq hb1
 have hq2 : Blk w2 q [.slice none 0 0] 24 := hu2.blk
 have y1 := k1.size
 have hqw : w.heap.size ≤ q := oM
 clear hu1 hu2
 have bad : ∀ {e : Env} {W : World} {x : Int}, e 6 = ptr q → e 7 = I x → Blk W q [.slice none 0 0] 24 → resC Tryz.prog e W [.cell 6 24, .tmp 7] [qV none 0 0, I x] := fun h1 h2 h3 =>
  ⟨⟨_, h1, Jb9 h3 rfl rfl rfl rfl⟩, ⟨none, by rw [h2]; rfl⟩, trivial⟩
 refine zS ?_
 refine Zm (vs := [.slice ad l.length cap]) rfl hb2.cs ?_
 refine Zc (Qe6 (hA.kp k2 sI) (hR.read.kp k2 sI) hR.cap_ oM hR.name) ?_
 rintro v w3 ⟨hv, k3⟩
 have k03 := k2.trans k3
 have hq3 := k3.b0 hq2
 have hb3 := k3.b0 hb2
 cases hw : Jh1 l with
 | none =>
  rw [hw] at hv hren
  have hv : v = .pointer none := hv
  subst hv
  rw [hren]
  refine zS ?_
  refine Zb [.slice none 0 0] ?_
  refine Zs (b := q) (cs := [.slice none 0 0]) rfl hq3 lR rfl (by simp [Value.oneCell']) ?_
  intro w4 hu4
  refine zS ?_
  exact ⟨_, bad rfl rfl hu4.blk, rfl, k03.since (hu4.kp [q] (.inl sI)) (by simpa using hqw)⟩
 | some t =>
  rw [hw] at hv hren
  have hren : renM l a c = if Jc5 a = false ∨ Jc5 c = false then .error 303 else .ok (l.map (renN a c)) := hren
  obtain ⟨p, rfl, hT⟩ := hv
  refine zS ?_
  refine Zc (Jm6 (hA.kp k03 sI) a ha) ?_
  rintro v w4 ⟨rfl, k4⟩
  have hq4 := k4.b0 hq3
  have hb4 := k4.b0 hb3
  have k04 := k03.trans k4
  refine Jn9 [1, 2, 3, 6] [S a, S c, ptr b, ptr q] 21 (!(Jc5 a && Jc5 c)) (fun W => Kp [] w4 W) ?_ ?_
  ·refine zS ?_
   refine Ja5 _ _ rfl rfl rfl (fun h1 => ?_) (fun h1 => ?_)
   ·refine zS ?_
    exact ⟨rfl, ⟨_, rfl, by simp at h1; rw [h1]; rfl⟩, Kp.refl _ _⟩
   ·refine zS ?_
    refine Zc (Jm6 (hA.kp k04 sI) c hcl) ?_
    rintro v w5 ⟨rfl, k5⟩
    refine zS ?_
    exact ⟨rfl, ⟨_, rfl, by simp at h1; rw [h1]; rfl⟩, k5⟩
  rintro e5 w5 k5
  have hq5 := k5.b0 hq4
  have hb5 := k5.b0 hb4
  have k05 := k04.trans k5
  refine Je1 rfl (fun hn => ?_) (fun hn => ?_)
  ·have hn : Jc5 a = false ∨ Jc5 c = false := by
    cases h1 : Jc5 a with
    | false => exact .inl rfl
    | true => rw [h1] at hn; simpa using hn
   rw [hren, if_pos hn]
   refine zS ?_
   refine Zb [.slice none 0 0] ?_
   refine Zs (b := q) (cs := [.slice none 0 0]) rfl hq5 lR rfl (by simp [Value.oneCell']) ?_
   intro w6 hu6
   refine zS ?_
   exact ⟨_, bad rfl rfl hu6.blk, rfl, k05.since (hu6.kp [q] (.inl sI)) (by simpa using hqw)⟩
  have hn : ¬ (Jc5 a = false ∨ Jc5 c = false) := by
   simp only [Bool.not_eq_false', Bool.and_eq_true] at hn
   rw [hn.1, hn.2]; simp
  rw [hren, if_neg hn]
  refine zL hb5 ?_
  refine Zc (CloneQ_ret (hR.read.kp k05 sI) hR.len) ?_
  rintro v w6 ⟨oad, ocap, rfl, hO6, k6, hf6⟩
  have y5 := k05.size
  refine zS ?_
  refine Zb [.slice oad l.length ocap] ?_
  refine zS ?_
  refine Za ?_
  intro ob w7 hob hu7
  have k7 : Kp [] w6 w7 := hu7.new oM
  refine Zs (b := ob) (cs := [.slice oad l.length ocap]) rfl hu7.blk lR rfl (by simp [Value.oneCell']) ?_
  intro w8 hu8
  have k8 : Kp [] w6 w8 := k7.since (hu8.kp [ob] (.inl sI)) (by simp; omega)
  have hob8 : Blk w8 ob [.slice oad l.length ocap] 24 := hu8.blk
  have y6 := k6.size
  have hO8 := hO6.kp k8 sI
  have hq8 := (hq5.lt)
  have hobl : ∀ c ∈ Ja1 oad, c ≠ ob ∧ c ≠ q := fun c hc => by
   have := hO6.lt c hc
   have := hf6 c hc
   omega
  clear hu7 hu8
  refine zL hob8 ?_
  refine Jb4 (α := Nat) [1, 2, 6, 8, 29, 30] (fun i => [S a, S c, ptr q, ptr ob, I l.length, I i]) (fun i W => i ≤ l.length ∧ OwnS W 81 4 oad l.length ocap (((l.take i).map (renN a c) ++ l.drop i).flatMap qC) ∧ Kp (Ja1 oad) w8 W) (fun i => l.length - i) 0 rfl ⟨oM, by simpa using hO8, Kp.refl _ _⟩ ?_
  rintro i e9 W ⟨hi, hOW, kW⟩
  have hobW := kW.blk (fun h => (hobl _ h).1 rfl) hob8
  refine zS ?_
  refine r_if rfl (fun hc => ?_) (fun hc => ?_)
  ·have hi2 : i < l.length := oM
   obtain ⟨x, hx⟩ : ∃ x, l[i]? = some x := ⟨_, List.getElem?_eq_getElem hi2⟩
   have hlen : ((l.take i).map (renN a c) ++ l.drop i).length = l.length := by simp; omega
   have hget : ((l.take i).map (renN a c) ++ l.drop i)[i]? = some x := by
    rw [List.getElem?_append_right (by simp; omega)]
    simp [Nat.min_eq_left hi, hx]
   rw [← hlen] at hOW
   obtain ⟨bo, L, rfl, hL, hLl, hcell, hset⟩ := hOW.rec (f := qC) (m := 4) Qh5 oM (i := i) oM
   have hnext : ((l.take (i + 1)).map (renN a c) ++ l.drop (i + 1)) = ((l.take i).map (renN a c) ++ l.drop i).set i (renN a c x) := by
    apply List.ext_getElem?
    intro j
    rw [List.getElem?_set]
    by_cases hj : i = j
    ·subst hj
     rw [if_pos rfl, if_pos oM, List.getElem?_append_left (by simp; omega), List.getElem?_map, List.getElem?_take_of_lt oM, hx]; rfl
    ·rw [if_neg hj]
     by_cases hlt : j < i
     ·rw [List.getElem?_append_left (by simp; omega), List.getElem?_append_left (by simp; omega), List.getElem?_map, List.getElem?_map, List.getElem?_take_of_lt oM, List.getElem?_take_of_lt oM]
     ·rw [List.getElem?_append_right (by simp; omega), List.getElem?_append_right (by simp; omega)]
      simp only [List.length_map, List.length_take, List.getElem?_drop]
      congr 1; omega
   refine zL hobW ?_
   refine Jf4 (v := S x.name) rfl hL (by
    have := hcell x hget 3 (S x.name) rfl
    rw [Ja2, Nat.zero_add]; exact this) rfl rfl rfl rfl ?_
   refine zS ?_
   refine Jd8 (α := Unit) [1, 2, 6, 8, 29, 30] (fun _ => [S a, S c, ptr q, ptr ob, I l.length, I i]) (fun _ W' => OwnS W' 81 4 (some ⟨bo, 0, none⟩) l.length ocap (((l.take (i + 1)).map (renN a c) ++ l.drop (i + 1)).flatMap qC) ∧ Kp (Ja1 (some ⟨bo, 0, none⟩)) w8 W') ?_ ?_
   ·refine r_if rfl (fun hxa => ?_) (fun hxa => ?_)
    ·have e1 : renN a c x = { x with name := c } := by unfold renN; rw [if_pos hxa]
     refine zL hobW ?_
     refine Zt (b := bo) (off := i * 4 + 3) (v := S c) (by rw [Ja2, Nat.zero_add]; rfl) hL oM ?_
     intro w9 hu9
     refine zS ?_
     refine ⟨(), rfl, ?_, kW.trans (hu9.kp _ (.inl (by simp [Ja1])))⟩
     rw [hnext, ← hlen, e1]
     refine hset _ w9 ?_
     have e2 : Jg0 L (i * 4) (qC { x with name := c }) = L.set (i * 4 + 3) (S c) := Jj4 L (cs := qC x) (j := 3) (v := S c) (fun j' v' h => hcell x hget j' v' h) (by rw [Qh5]; omega) (by rw [Qh5]; omega)
     rw [e2]; exact hu9
    ·have e1 : renN a c x = x := by unfold renN; rw [if_neg hxa]
     refine zS ?_
     refine ⟨(), rfl, ?_, kW⟩
     rw [hnext, e1, ← hlen]
     have e2 : ((l.take i).map (renN a c) ++ l.drop i).set i x = (l.take i).map (renN a c) ++ l.drop i := by
      apply List.ext_getElem?
      intro j
      rw [List.getElem?_set]
      by_cases hj : i = j
      ·subst hj; rw [if_pos rfl, if_pos oM, hget]
      ·rw [if_neg hj]
     rw [e2]
     exact hOW
   rintro _ e10 w10 ⟨hO10, k10⟩
   refine zS ?_
   exact ⟨i + 1, rfl, ⟨oM, hO10, k10⟩, oM⟩
  ·have hi3 : i = l.length := oM
   subst hi3
   rw [List.take_length, List.drop_length, List.append_nil] at hOW
   have hqW := kW.blk (fun h => (hobl _ h).2 rfl) (k8.b0 (k6.b0 hq5))
   have k0W : Kp [] w W := ((k05.trans k6).trans k8).since kW (fun c hc => by have := hf6 c hc; omega)
   refine zS ?_
   refine Zm (vs := [.slice oad l.length ocap]) rfl hobW.cs ?_
   refine Zs (b := q) (cs := [.slice oad l.length ocap]) rfl hqW lR rfl (by simp [Value.oneCell']) ?_
   intro w9 hu9
   refine zS ?_
   refine ⟨[.agg ⟨[.slice oad l.length ocap]⟩, I 0], ⟨⟨_, rfl, Jb9 hu9.blk rfl rfl rfl rfl⟩, ⟨none, rfl⟩, trivial⟩, ⟨oad, ocap, ?_, ?_, fun c hc => by have := hf6 c hc; omega⟩, k0W.since (hu9.kp [q] (.inl sI)) (by simpa using hqw)⟩
   ·rw [List.length_map]; rfl
   ·rw [List.length_map]
    exact hOW.upd hu9 (fun h => (hobl _ h).2 rfl)
end
section
variable {w : World}
structure Ev where
 k : Int
 t : Int
 o : Int
abbrev evC (x : Ev) : List Value := [I x.k, I x.t, I x.o]
structure Std where
 ph : Int
 ba : Int
 ro : Int
abbrev stdC (s : Std) : List Value := [I s.ph, I s.ba, I s.ro]
abbrev stdV (s : Std) : Value := .agg ⟨stdC s⟩
structure Shp where
 th : Int
 va : Int
 vo : Int
 lo : Int
 pa : List Int
structure Ck where
 T : Int → Option Std
 O : Int → Option Int
 op : List (Int × Int)
 n : Nat
abbrev opC2 (x : Int × Int) : List Value := [I x.1, I x.2]
def opsC (l : List (Int × Int)) : List Value := l.flatMap opC2
def st (c : Ck) (t : Int) : Std := (c.T t).getD ⟨0, 0, 0⟩
def Jq7 (s : Shp) : Prop := (1 ≤ s.th ∧ s.th ≤ 65535) ∧ (0 ≤ s.va ∧ s.va ≤ 4096) ∧ (0 ≤ s.vo ∧ s.vo ≤ 4096) ∧ (0 ≤ s.lo ∧ s.lo ≤ 4096) ∧ s.pa.length ≤ 4096 ∧ ∀ x ∈ s.pa, 1 ≤ x ∧ x ≤ 65535
structure CkOk (s : Shp) (c : Ck) : Prop where
 sh : Jq7 s
 T : ∀ t x, c.T t = some x → (0 ≤ t ∧ t < s.th) ∧ (x.ph = 2 → 0 ≤ x.ba ∧ x.ba < c.op.length)
 O : ∀ l t, c.O l = some t → (0 ≤ l ∧ l < s.lo) ∧ 0 ≤ t
 op : c.op.length = s.pa.length
 rng : ∀ x ∈ c.op, (0 ≤ x.1 ∧ x.1 ≤ c.n) ∧ (0 ≤ x.2 ∧ x.2 ≤ c.n)
def opAt (c : Ck) (i : Int) : Int × Int := (c.op[i.toNat]?).getD (0, 0)
def fullB (c : Ck) (t : Int) : Bool := decide ((st c t).ph = 2) && decide ((st c t).ro < (opAt c (st c t).ba).1)
def canB (s : Shp) (c : Ck) (e : Ev) : Bool :=
 if (st c e.t).ph = 2 then (if e.k = 10 then (if e.o = (st c e.t).ba then fullB c e.t else false) else false)
 else if (st c e.t).ph ≠ 1 then false
 else if e.o < 0 then false
 else if e.k = 2 then decide (e.o < s.va)
 else if e.k = 1 then decide (e.o < s.va)
 else if e.k = 4 then decide (e.o < s.vo)
 else if e.k = 3 then decide (e.o < s.vo)
 else if e.k = 6 then (if c.O e.o = some e.t then decide (e.o < s.lo) else false)
 else if e.k = 5 then (if c.O e.o = none then decide (e.o < s.lo) else false)
 else if e.k = 7 then (if (st c e.o).ph = 0 then decide (e.o < s.th) else false)
 else if e.k = 8 then (if (st c e.o).ph = 3 then decide (e.o < s.th) else false)
 else if e.k = 9 then decide (e.o < c.op.length)
 else if e.k = 11 then decide (e.o < 1)
 else false
def upT {α : Type} (f : Int → Option α) (k : Int) (v : Option α) (x : Int) : Option α := if x = k then v else f x
def Jy5 (s : Shp) (c : Ck) (o : Int) : Int × Int :=
 if (opAt c o).2 + 1 = (s.pa[o.toNat]?).getD 0 then ((opAt c o).1 + 1, 0) else ((opAt c o).1, (opAt c o).2 + 1)
def Jl2 (s : Shp) (c : Ck) (e : Ev) : Ck :=
 if e.k = 5 then { c with O := upT c.O e.o (some e.t), n := c.n + 1 }
 else if e.k = 6 then { c with O := upT c.O e.o none, n := c.n + 1 }
 else if e.k = 7 then { c with T := upT c.T e.o (some ⟨1, 0, 0⟩), n := c.n + 1 }
 else if e.k = 9 then { c with T := upT c.T e.t (some ⟨2, e.o, (opAt c e.o).1⟩), op := c.op.set e.o.toNat (Jy5 s c e.o), n := c.n + 1 }
 else if e.k = 10 then { c with T := upT c.T e.t (some ⟨1, 0, 0⟩), n := c.n + 1 }
 else if e.k = 11 then { c with T := upT c.T e.t (some ⟨3, 0, 0⟩), n := c.n + 1 }
 else { c with n := c.n + 1 }
def newC (s : Shp) : Ck := ⟨upT (fun _ => none) 0 (some ⟨1, 0, 0⟩), fun _ => none, s.pa.map fun _ => (0, 0), 0⟩
structure CkG where
 p : Nat
 m1 : Nat
 m2 : Nat
 pad : Option Addr
 pcap : Nat
 oad : Option Addr
 ocap : Nat
def CkG.F (g : CkG) : List Nat := g.p :: g.m1 :: g.m2 :: (Ja1 g.pad ++ Ja1 g.oad)
abbrev ckC (g : CkG) (s : Shp) (c : Ck) : List Value := [I s.th, I s.va, I s.vo, I s.lo, .slice g.pad s.pa.length g.pcap, .map (some g.m1), .map (some g.m2), .slice g.oad c.op.length g.ocap, I c.n]
def mapT (T : Int → Option Std) (k : Int) : Option Value := (T k).map stdV
def mapO (O : Int → Option Int) (k : Int) : Option Value := (O k).map I
structure CkM (w : World) (g : CkG) (s : Shp) (c : Ck) : Prop where
 hdr : Blk w g.p (ckC g s c) 237
 mt : MapI w g.m1 (mapT c.T)
 mo : MapI w g.m2 (mapO c.O)
 pa : OwnS w 3 1 g.pad s.pa.length g.pcap (s.pa.map I)
 op : OwnS w 131 2 g.oad c.op.length g.ocap (opsC c.op)
 nd : g.F.Nodup
structure CkAt (w : World) (g : CkG) (s : Shp) (c : Ck) : Prop extends CkM w g s c where
 ok : CkOk s c
theorem CkM.kp {w' : World} {S : List Nat} {g : CkG} {s : Shp} {c : Ck} (h : CkM w g s c) (hk : Kp S w w') (hS : ∀ b, b ∈ g.F → b ∉ S) : CkM w' g s c where
 hdr := hk.blk (hS g.p (by simp [CkG.F])) h.hdr
 mt := h.mt.kp hk (hS _ (by simp [CkG.F]))
 mo := h.mo.kp hk (hS _ (by simp [CkG.F]))
 pa := h.pa.kp hk (fun b hb => hS b (by simp [CkG.F, hb]))
 op := h.op.kp hk (fun b hb => hS b (by simp [CkG.F, hb]))
 nd := h.nd
theorem CkAt.kp {w' : World} {S : List Nat} {g : CkG} {s : Shp} {c : Ck} (h : CkAt w g s c) (hk : Kp S w w') (hS : ∀ b, b ∈ g.F → b ∉ S) : CkAt w' g s c := ⟨h.toCkM.kp hk hS, h.ok⟩
theorem CkAt.kp0 {w' : World} {g : CkG} {s : Shp} {c : Ck} (h : CkAt w g s c) (hk : Kp [] w w') : CkAt w' g s c := h.kp hk sI
theorem CkAt.sm {w' : World} {g : CkG} {s : Shp} {c : Ck} (h : CkAt w g s c) (hk : Sm w w') : CkAt w' g s c := h.kp0 (hk.kp [])
theorem CkM.lt {g : CkG} {s : Shp} {c : Ck} (h : CkM w g s c) : ∀ b, b ∈ g.F → b < w.heap.size := by
 intro b hb
 simp only [CkG.F, List.mem_cons, List.mem_append] at hb
 rcases hb with rfl | rfl | rfl | hb | hb
 ·exact h.hdr.lt
 ·exact h.mt.lt
 ·exact h.mo.lt
 ·exact h.pa.lt b hb
 ·exact h.op.lt b hb
theorem Qd1 (T : Int → Option Std) (k : Int) : (mapT T k).getD (.agg #[I 0, I 0, I 0]) = stdV ((T k).getD ⟨0, 0, 0⟩) := by
 unfold mapT; cases T k <;> rfl
theorem Jo2 (l : List (Int × Int)) : (opsC l).length = l.length * 2 := by
 induction l with
 | nil => rfl
 | cons x r ih => unfold opsC at *; rw [List.flatMap_cons, List.length_append, ih]; simp [opC2]; omega
theorem opsC_get : ∀ {l : List (Int × Int)} {i : Nat} {x : Int × Int}, l[i]? = some x → (opsC l)[i * 2]? = some (I x.1) ∧ (opsC l)[i * 2 + 1]? = some (I x.2)
 | [], i, x, h => by simp at h
 | y :: r, 0, x, h => by simp at h; subst h; simp [opsC, opC2]
 | y :: r, i + 1, x, h => by
  have ih := opsC_get (l := r) (i := i) (x := x) (by simpa using h)
  have e1 : opsC (y :: r) = I y.1 :: I y.2 :: opsC r := by simp [opsC, opC2]
  rw [e1]
  have e2 : (i + 1) * 2 = i * 2 + 2 := oM
  rw [e2]
  exact ih
theorem CkM.open_ {g : CkG} {s : Shp} {c : Ck} (h : CkM w g s c) {i : Nat} (hi : i < c.op.length) : ∃ b L, g.oad = some ⟨b, 0, none⟩ ∧ b ∈ g.F ∧ Blk w b L 131 ∧ (∃ junk, L = opsC c.op ++ junk) ∧ L[i * 2]? = some (I (opAt c i).1) ∧ L[i * 2 + 1]? = some (I (opAt c i).2) := by
 have ho := h.op
 cases hoad : g.oad with
 | none => rw [hoad] at ho; obtain ⟨h1, _⟩ := ho.2; omega
 | some ad =>
  obtain ⟨b, off, spot⟩ := ad
  rw [hoad] at ho
  obtain ⟨h1, h2, h3, h4, junk, h5, h6⟩ := ho.2
  dsimp only at h1 h2 h5
  subst h1 h2
  have hx : c.op[i]? = some (opAt c i) := by
   unfold opAt
   rw [Int.toNat_natCast, List.getElem?_eq_getElem hi]; rfl
  obtain ⟨g1, g2⟩ := opsC_get hx
  have hl := Jo2 c.op
  refine ⟨b, _, rfl, by simp [CkG.F, hoad, Ja1], h5, ⟨junk, rfl⟩, ?_, ?_⟩
  ·rw [List.getElem?_append_left oM]; exact g1
  ·rw [List.getElem?_append_left oM]; exact g2
section
variable {g : CkG} {s : Shp} {c : Ck}
theorem Js6 (h : CkAt w g s c) : Ret Tryz.prog 130 [ptr g.p] w (fun v w' => v = .bool false ∧ w' = w) := by
 refine Ze Tryz.call130 Tryz.func130 ?_
 refine zS ?_
 refine Zl (v := .map (some g.m1)) rfl h.hdr ?_
 refine zS ?_
 exact ⟨_, rfl, rfl, rfl⟩
theorem st_ba (h : CkOk s c) {t : Int} (hp : (st c t).ph = 2) : 0 ≤ (st c t).ba ∧ (st c t).ba < c.op.length := by
 unfold st at hp ⊢
 cases hT : c.T t with
 | none => rw [hT] at hp; simp at hp
 | some x => rw [hT] at hp; exact (h.T t x hT).2 hp
theorem Full_ret (h : CkAt w g s c) (t : Int) : Ret Tryz.prog 161 [ptr g.p, I t] w (fun v w' => v = .bool (fullB c t) ∧ Kp [] w w') := by
 refine Ze Tryz.call161 Tryz.func161 ?_
 refine zS ?_
 refine Zc (Js6 h) ?_
 rintro v wx ⟨rfl, rfl⟩
 refine zS ?_
 refine Zl (v := .map (some g.m1)) rfl h.hdr ?_
 refine zS ?_
 refine o_lookI (stdV (st c t)) rfl rfl h.mt (Qd1 c.T t) rfl rfl rfl rfl rfl rfl ?_
 refine zS ?_
 refine Za ?_
 intro bt w1 hbt hu1
 refine Zs (cs := stdC (st c t)) rfl hu1.blk lR rfl (by simp [Value.oneCell']) ?_
 intro w2 hu2
 have k2 : Kp [] wx w2 := (hu1.new oM).since (hu2.kp [bt] (.inl sI)) (by simp; omega)
 have hB : Blk w2 bt (stdC (st c t)) 136 := hu2.blk
 have h2 := h.kp0 k2
 refine zS ?_
 refine Ja9 ?_
 refine Jd1 Ja0 kR ?_
 refine zQ ?_
 refine Zq (v := I (st c t).ph) rfl (fun w hs => (hs.blk hB).cell rfl) ?_
 refine zQ ?_
 by_cases hp : (st c t).ph = 2
 ·obtain ⟨hb1, hb2⟩ := st_ba h.ok hp
  obtain ⟨ob, L, hoad, _, hL, _, hL1, _⟩ := h2.open_ (i := (st c t).ba.toNat) oM
  have hh := h2.hdr
  rw [show ckC g s c = [I s.th, I s.va, I s.vo, I s.lo, .slice g.pad s.pa.length g.pcap, .map (some g.m1), .map (some g.m2), .slice (some ⟨ob, 0, none⟩) c.op.length g.ocap, I c.n] by rw [ckC, hoad]] at hh
  have e1 : (((st c t).ba.toNat : Nat) : Int) = (st c t).ba := oM
  rw [e1] at hL1
  refine q_is true 3 true rfl rfl rfl (by simp [hp]) ?_
  refine zQ ?_
  refine Zq (v := I (st c t).ro) rfl (fun w hs => (hs.blk hB).cell rfl) ?_
  refine zQ ?_
  refine Zq (v := .slice (some ⟨ob, 0, none⟩) c.op.length g.ocap) rfl (fun w hs => (hs.blk hh).cell rfl) ?_
  refine zQ ?_
  refine Zq (v := I (st c t).ba) rfl (fun w hs => (hs.blk hB).cell rfl) ?_
  refine zQ ?_
  refine Zq (b := ob) (off := (st c t).ba.toNat * 2) (v := I (opAt c (st c t).ba).1) ?_ (fun w hs => (hs.blk hL).cell hL1) ?_
  ·show Value.pointer (some ⟨ob, 0 + (st c t).ba.toNat * 2, none⟩) = _
   rw [Nat.zero_add]
  refine zQ ?_
  intro w3 hs3
  refine zS ?_
  exact ⟨_, rfl, by simp [fullB, hp], k2.trans (hs3.kp [])⟩
 ·refine q_is false 3 true rfl rfl rfl (by simp [hp]) ?_
  refine zQ ?_
  intro w3 hs3
  refine zS ?_
  exact ⟨_, rfl, by simp [fullB, hp], k2.trans (hs3.kp [])⟩
theorem Can_ret (h : CkAt w g s c) (x : Ev) : Ret Tryz.prog 132 [ptr g.p, .agg ⟨evC x⟩] w (fun v w' => v = .bool (canB s c x) ∧ Kp [] w w') := by
 refine Ze Tryz.call132 Tryz.func132 ?_
 refine zS ?_
 refine Zx ?_
 intro bx w1 hbx hu1
 have hB1 : Blk w1 bx (evC x) 86 := hu1.blk
 have k1 : Kp [] w w1 := hu1.new oM
 have h1 := h.kp0 k1
 refine zS ?_
 refine Zc (Js6 h1) ?_
 rintro v wx ⟨rfl, rfl⟩
 refine zS ?_
 refine Ja9 ?_
 refine Jd8 (α := Nat) [0, 3, 4, 5] (fun bt => [ptr g.p, ptr bx, .bool false, ptr bt]) (fun bt w' => Kp [] wx w' ∧ Blk w' bt (stdC (st c x.t)) 136) ?_ ?_
 ·refine Jo6 (fun w' => Kp [] wx w') [(0, false), (1, false), (2, false), (3, false), (4, false), (5, false), (6, false), (7, true), (8, true)] Ja0 kR kR kR ((Sm.drew wx).kp []) ?_
  have kd := (Sm.drew wx).kp []
  generalize ({ wx with drawn := wx.drawn + 1 } : World) = w2 at kd ⊢
  refine zX ?_
  refine Zy (v := .map (some g.m1)) rfl rfl (fun w' h' => (h1.kp0 h').hdr.cell rfl) ?_
  refine zX ?_
  refine Zy (v := I x.t) rfl rfl (fun w' h' => (h'.b0 hB1).cell rfl) ?_
  refine zX ?_
  refine x_lookI (stdV (st c x.t)) rfl rfl rfl (fun w' h' => (h1.kp0 h').mt) (Qd1 c.T x.t) rfl rfl rfl rfl rfl rfl ?_
  refine zX ?_
  refine Jh2 rfl ?_
  refine Za ?_
  intro bt w3 hbt hu3
  have k3 := kd.trans (hu3.new oM)
  refine Ja6 ⟨.inr k3, ?_⟩
  refine zX ?_
  refine Jh2 rfl ?_
  refine Zs (cs := stdC (st c x.t)) rfl hu3.blk lR rfl (by simp [Value.oneCell']) ?_
  intro w4 hu4
  have z2 := kd.size
  have k4 : Kp [] wx w4 := k3.since (hu4.kp [bt] (.inl sI)) (by simp; omega)
  refine Ja6 ⟨.inl kR, ?_⟩
  refine zX ?_
  exact ⟨bt, rfl, k4, hu4.blk⟩
 rintro bt e w4 ⟨k4, hBt⟩
 have h4 := h1.kp0 k4
 have hB4 := k4.b0 hB1
 have kk := k1.trans k4
 refine zS ?_
 refine Zl (v := I (st c x.t).ph) rfl hBt ?_
 refine zS ?_
 refine r_if (p := (st c x.t).ph = 2) rfl (fun hp2 => ?_) (fun hp2 => ?_)
 ·refine zS ?_
  refine Zl (v := I x.k) rfl hB4 ?_
  refine zS ?_
  by_cases hk : x.k = 10
  ·refine o_is true 3 true rfl rfl rfl (by simp [hk]) ?_
   refine zS ?_
   refine Zl (v := I x.o) rfl hB4 ?_
   refine zS ?_
   refine Zl (v := I (st c x.t).ba) rfl hBt ?_
   refine zS ?_
   by_cases ho : x.o = (st c x.t).ba
   ·refine o_is true 10 true rfl rfl rfl (by simp [hk, ho]) ?_
    refine zS ?_
    refine Zl (v := I x.t) rfl hB4 ?_
    refine zS ?_
    refine Zc (Full_ret h4 x.t) ?_
    rintro v w5 ⟨rfl, k5⟩
    refine zS ?_
    exact ⟨_, rfl, by simp [canB, hp2, hk, ho], kk.trans k5⟩
   ·refine o_is false 10 true rfl rfl rfl (by simp [hk, ho]) ?_
    refine zS ?_
    exact ⟨_, rfl, by simp [canB, hp2, hk, ho], kk⟩
  ·refine o_is false 3 true rfl rfl rfl (by simp [hk]) ?_
   refine zS ?_
   exact ⟨_, rfl, by simp [canB, hp2, hk], kk⟩
 refine zS ?_
 refine Zl (v := I (st c x.t).ph) rfl hBt ?_
 refine zS ?_
 by_cases hp1 : (st c x.t).ph = 1
 rotate_left
 ·refine o_is true 3 false rfl rfl rfl (by simp [hp1]) ?_
  refine zS ?_
  exact ⟨_, rfl, by simp [canB, hp2, hp1], kk⟩
 refine o_is false 3 false rfl rfl rfl (by simp [hp1]) ?_
 refine zS ?_
 refine Zl (v := I x.o) rfl hB4 ?_
 refine zS ?_
 refine r_if (p := x.o < 0) rfl (fun ho => ?_) (fun ho => ?_)
 ·refine zS ?_
  exact ⟨_, rfl, by simp [canB, hp2, hp1, ho], kk⟩
 refine zS ?_
 refine Ja9 ?_
 refine Jd1 Ja0 kR ?_
 refine zQ ?_
 refine Zq (v := .map (some g.m2)) rfl (fun w hs => (hs.blk h4.hdr).cell rfl) ?_
 refine zQ ?_
 refine Zq (v := I x.o) rfl (fun w hs => (hs.blk hB4).cell rfl) ?_
 refine zQ ?_
 refine q_lookI2 (.tuple #[I ((c.O x.o).getD 0), .bool (c.O x.o).isSome]) rfl rfl (fun w hs => (h4.sm hs).mo) (by unfold mapO; cases c.O x.o <;> rfl) rfl rfl rfl rfl rfl rfl ?_
 refine zQ ?_
 intro w5 hs5
 have h5 := h4.sm hs5
 have kk5 := kk.trans (hs5.kp [])
 have hB5 := hs5.blk hB4
 have hlt5 : w.heap.size ≤ bx := oM
 refine Ja9 ?_
 refine Jd8 (α := Nat) [0, 3, 4, 6, 7, 8] (fun bt => [ptr g.p, ptr bx, .bool false, I ((c.O x.o).getD 0), .bool (c.O x.o).isSome, ptr bt]) (fun bt w' => Kp [] w5 w' ∧ Blk w' bt (stdC (st c x.o)) 136) ?_ ?_
 ·refine Jo6 (fun w' => Kp [] w5 w') [(0, false), (1, false), (2, false), (3, false), (4, false), (5, false), (6, false), (7, true), (8, true)] Ja0 kR kR kR ((Sm.drew w5).kp []) ?_
  have kd := (Sm.drew w5).kp []
  generalize ({ w5 with drawn := w5.drawn + 1 } : World) = w6 at kd ⊢
  refine zX ?_
  refine Zy (v := .map (some g.m1)) rfl rfl (fun w' h' => (h5.kp0 h').hdr.cell rfl) ?_
  refine zX ?_
  refine Zy (v := I x.o) rfl rfl (fun w' h' => (h'.b0 hB5).cell rfl) ?_
  refine zX ?_
  refine x_lookI (stdV (st c x.o)) rfl rfl rfl (fun w' h' => (h5.kp0 h').mt) (Qd1 c.T x.o) rfl rfl rfl rfl rfl rfl ?_
  refine zX ?_
  refine Jh2 rfl ?_
  refine Za ?_
  intro bo w7 hbo hu7
  have k7 := kd.trans (hu7.new oM)
  refine Ja6 ⟨.inr k7, ?_⟩
  refine zX ?_
  refine Jh2 rfl ?_
  refine Zs (cs := stdC (st c x.o)) rfl hu7.blk lR rfl (by simp [Value.oneCell']) ?_
  intro w8 hu8
  have z6 := kd.size
  have k8 : Kp [] w5 w8 := k7.since (hu8.kp [bo] (.inl sI)) (by simp; omega)
  refine Ja6 ⟨.inl kR, ?_⟩
  refine zX ?_
  exact ⟨bo, rfl, k8, hu8.blk⟩
 rintro bo e w8 ⟨k8, hBo⟩
 have h8 := h5.kp0 k8
 have hB8 := k8.b0 hB5
 have kk8 := kk5.trans k8
 have e0 : canB s c x = (if x.k = 2 then decide (x.o < s.va)
  else if x.k = 1 then decide (x.o < s.va)
  else if x.k = 4 then decide (x.o < s.vo)
  else if x.k = 3 then decide (x.o < s.vo)
  else if x.k = 6 then (if c.O x.o = some x.t then decide (x.o < s.lo) else false)
  else if x.k = 5 then (if c.O x.o = none then decide (x.o < s.lo) else false)
  else if x.k = 7 then (if (st c x.o).ph = 0 then decide (x.o < s.th) else false)
  else if x.k = 8 then (if (st c x.o).ph = 3 then decide (x.o < s.th) else false)
  else if x.k = 9 then decide (x.o < c.op.length)
  else if x.k = 11 then decide (x.o < 1)
  else false) := by
  unfold canB
  rw [if_neg hp2, if_neg oM, if_neg ho]
 refine zS ?_
 refine Zl (v := I x.k) rfl hB8 ?_
 refine zS ?_
 refine Ja9 ?_
 refine zS ?_
 refine r_if (p := x.k = 2) rfl (fun hk2 => ?_) (fun hk2 => ?_)
 ·refine zS ?_
  refine Zl (v := I s.va) rfl h8.hdr ?_
  refine zS ?_
  refine Zl (v := I x.o) rfl hB8 ?_
  refine zS ?_
  exact ⟨_, rfl, by rw [e0, if_pos hk2], kk8⟩
 refine zS ?_
 refine r_if (p := x.k = 1) rfl (fun hk1 => ?_) (fun hk1 => ?_)
 ·refine zS ?_
  refine Zl (v := I s.va) rfl h8.hdr ?_
  refine zS ?_
  refine Zl (v := I x.o) rfl hB8 ?_
  refine zS ?_
  exact ⟨_, rfl, by rw [e0, if_neg hk2, if_pos hk1], kk8⟩
 refine zS ?_
 refine r_if (p := x.k = 4) rfl (fun hk4 => ?_) (fun hk4 => ?_)
 ·refine zS ?_
  refine Zl (v := I s.vo) rfl h8.hdr ?_
  refine zS ?_
  refine Zl (v := I x.o) rfl hB8 ?_
  refine zS ?_
  exact ⟨_, rfl, by rw [e0, if_neg hk2, if_neg hk1, if_pos hk4], kk8⟩
 refine zS ?_
 refine r_if (p := x.k = 3) rfl (fun hk3 => ?_) (fun hk3 => ?_)
 ·refine zS ?_
  refine Zl (v := I s.vo) rfl h8.hdr ?_
  refine zS ?_
  refine Zl (v := I x.o) rfl hB8 ?_
  refine zS ?_
  exact ⟨_, rfl, by rw [e0, if_neg hk2, if_neg hk1, if_neg hk4, if_pos hk3], kk8⟩
 refine zS ?_
 refine r_if (p := x.k = 6) rfl (fun hk6 => ?_) (fun hk6 => ?_)
 ·refine zS ?_
  refine Ja9 ?_
  refine zS ?_
  cases hO : c.O x.o with
  | none =>
   simp only [Option.isSome_none, Option.getD_none]
   refine zS ?_
   exact ⟨_, rfl, by rw [e0, if_neg hk2, if_neg hk1, if_neg hk4, if_neg hk3, if_pos hk6, hO, if_neg sI], kk8⟩
  | some ow =>
   simp only [Option.isSome_some, Option.getD_some]
   refine zS ?_
   refine Zl (v := I x.t) rfl hB8 ?_
   refine zS ?_
   by_cases how : ow = x.t
   ·refine r_no rfl (by simp [how]) ?_
    refine zS ?_
    refine Zl (v := I s.lo) rfl h8.hdr ?_
    refine zS ?_
    refine Zl (v := I x.o) rfl hB8 ?_
    refine zS ?_
    exact ⟨_, rfl, by rw [e0, if_neg hk2, if_neg hk1, if_neg hk4, if_neg hk3, if_pos hk6, hO, if_pos (by rw [how])], kk8⟩
   ·refine Jf7 rfl (by simp [how]) ?_
    refine zS ?_
    exact ⟨_, rfl, by rw [e0, if_neg hk2, if_neg hk1, if_neg hk4, if_neg hk3, if_pos hk6, hO, if_neg (by simpa using how)], kk8⟩
 refine zS ?_
 refine r_if (p := x.k = 5) rfl (fun hk5 => ?_) (fun hk5 => ?_)
 ·refine zS ?_
  refine Ja9 ?_
  refine zS ?_
  cases hO : c.O x.o with
  | none =>
   simp only [Option.isSome_none, Option.getD_none]
   refine zS ?_
   refine Zl (v := I s.lo) rfl h8.hdr ?_
   refine zS ?_
   refine Zl (v := I x.o) rfl hB8 ?_
   refine zS ?_
   exact ⟨_, rfl, by rw [e0, if_neg hk2, if_neg hk1, if_neg hk4, if_neg hk3, if_neg hk6, if_pos hk5, hO, if_pos rfl], kk8⟩
  | some ow =>
   simp only [Option.isSome_some, Option.getD_some]
   refine zS ?_
   exact ⟨_, rfl, by rw [e0, if_neg hk2, if_neg hk1, if_neg hk4, if_neg hk3, if_neg hk6, if_pos hk5, hO, if_neg sI], kk8⟩
 refine zS ?_
 refine r_if (p := x.k = 7) rfl (fun hk7 => ?_) (fun hk7 => ?_)
 ·refine zS ?_
  refine Ja9 ?_
  refine zS ?_
  refine Zl (v := I (st c x.o).ph) rfl hBo ?_
  refine zS ?_
  by_cases hq : (st c x.o).ph = 0
  ·refine r_no rfl (by simp [hq]) ?_
   refine zS ?_
   refine Zl (v := I s.th) rfl h8.hdr ?_
   refine zS ?_
   refine Zl (v := I x.o) rfl hB8 ?_
   refine zS ?_
   exact ⟨_, rfl, by rw [e0, if_neg hk2, if_neg hk1, if_neg hk4, if_neg hk3, if_neg hk6, if_neg hk5, if_pos hk7, if_pos hq], kk8⟩
  ·refine Jf7 rfl (by simp [hq]) ?_
   refine zS ?_
   exact ⟨_, rfl, by rw [e0, if_neg hk2, if_neg hk1, if_neg hk4, if_neg hk3, if_neg hk6, if_neg hk5, if_pos hk7, if_neg hq], kk8⟩
 refine zS ?_
 refine r_if (p := x.k = 8) rfl (fun hk8 => ?_) (fun hk8 => ?_)
 ·refine zS ?_
  refine Ja9 ?_
  refine zS ?_
  refine Zl (v := I (st c x.o).ph) rfl hBo ?_
  refine zS ?_
  by_cases hq : (st c x.o).ph = 3
  ·refine r_no rfl (by simp [hq]) ?_
   refine zS ?_
   refine Zl (v := I s.th) rfl h8.hdr ?_
   refine zS ?_
   refine Zl (v := I x.o) rfl hB8 ?_
   refine zS ?_
   exact ⟨_, rfl, by rw [e0, if_neg hk2, if_neg hk1, if_neg hk4, if_neg hk3, if_neg hk6, if_neg hk5, if_neg hk7, if_pos hk8, if_pos hq], kk8⟩
  ·refine Jf7 rfl (by simp [hq]) ?_
   refine zS ?_
   exact ⟨_, rfl, by rw [e0, if_neg hk2, if_neg hk1, if_neg hk4, if_neg hk3, if_neg hk6, if_neg hk5, if_neg hk7, if_pos hk8, if_neg hq], kk8⟩
 refine zS ?_
 refine r_if (p := x.k = 9) rfl (fun hk9 => ?_) (fun hk9 => ?_)
 ·refine zS ?_
  refine Zl (v := .slice g.oad c.op.length g.ocap) rfl h8.hdr ?_
  refine zS ?_
  refine Zl (v := I x.o) rfl hB8 ?_
  refine zS ?_
  exact ⟨_, rfl, by rw [e0, if_neg hk2, if_neg hk1, if_neg hk4, if_neg hk3, if_neg hk6, if_neg hk5, if_neg hk7, if_neg hk8, if_pos hk9], kk8⟩
 refine zS ?_
 refine r_if (p := x.k = 11) rfl (fun hk11 => ?_) (fun hk11 => ?_)
 ·refine zS ?_
  refine Zl (v := I x.o) rfl hB8 ?_
  refine zS ?_
  exact ⟨_, rfl, by rw [e0, if_neg hk2, if_neg hk1, if_neg hk4, if_neg hk3, if_neg hk6, if_neg hk5, if_neg hk7, if_neg hk8, if_neg hk9, if_pos hk11], kk8⟩
 refine zS ?_
 refine Zl (v := I x.o) rfl hB8 ?_
 refine zS ?_
 exact ⟨_, rfl, by rw [e0, if_neg hk2, if_neg hk1, if_neg hk4, if_neg hk3, if_neg hk6, if_neg hk5, if_neg hk7, if_neg hk8, if_neg hk9, if_neg hk11]; simp; omega, kk8⟩
end
end
end Go.Vc
