/- Parts of a proof. -/
import Derived.Test.YtkgngbpkiklckaaGreatDoorQClQExact19
set_option maxHeartbeats 12800000
namespace Go.Vc
open Go
structure MOk (n : Nat) (M : List (List Nat)) : Prop where
 len : M.length = n
 row : ∀ ws ∈ M, ws.length = wid n ∧ WOk ws
theorem MOk.get {n : Nat} {M : List (List Nat)} (h : MOk n M) {i : Nat} (hi : i < n) : ∃ ws, M[i]? = some ws ∧ M.getD i [] = ws ∧ ws.length = wid n ∧ WOk ws := by
 have hl : i < M.length := by rw [h.len]; exact hi
 refine ⟨M[i], List.getElem?_eq_getElem hl, ?_, h.row _ (List.getElem_mem hl)⟩
 rw [List.getD_eq_getElem?_getD, List.getElem?_eq_getElem hl]; rfl
theorem MOk.set {n : Nat} {M : List (List Nat)} (h : MOk n M) {i : Nat} {ws : List Nat} (hw : ws.length = wid n) (hok : WOk ws) : MOk n (M.set i ws) :=
 ⟨by simpa using h.len, fun x hx => by
  rcases List.mem_or_eq_of_mem_set hx with h1 | h1
  ·exact h.row x h1
  ·rw [h1]; exact ⟨hw, hok⟩⟩
theorem Jn5.mok {w : World} {p n : Nat} {bs : List Nat} {M : List (List Nat)} {ad : Option Addr} {cap : Nat} (h : Jn5 w p n bs M ad cap) : MOk n M :=
 ⟨h.nM, fun ws hw => by
  obtain ⟨i, hi⟩ := List.getElem?_of_mem hw
  have hlt : i < n := by rw [← h.nM]; exact (List.getElem?_eq_some_iff.1 hi).1
  obtain ⟨b, ws', _, h2, _, h4⟩ := h.at_row hlt
  rw [hi] at h2; cases h2; exact h4⟩
theorem bitM_set {M : List (List Nat)} {i : Nat} {ws : List Nat} (hi : i < M.length) (a b : Nat) : bitM (M.set i ws) a b = if a = i then bit ws b else bitM M a b := by
 unfold bitM
 rw [List.getD_eq_getElem?_getD, List.getD_eq_getElem?_getD, List.getElem?_set]
 by_cases h : i = a
 ·subst h; simp [hi]
 ·rw [if_neg h, if_neg (fun e => h e.symm)]
theorem bitM_linkM {n : Nat} {M : List (List Nat)} (h : MOk n M) {i j : Nat} (hi : i < n) (hj : j < n) (a b : Nat) : bitM (linkM M i j) a b = (bitM M a b || decide (a = i ∧ b = j)) := by
 obtain ⟨ws, h1, h2, h3, h4⟩ := h.get hi
 have hjw := wid_lt hj
 unfold linkM
 rw [bitM_set (by rw [h.len]; exact hi)]
 by_cases ha : a = i
 ·subst ha
  rw [if_pos rfl]
  have : bitM M a b = bit (M.getD a []) b := rfl
  rw [this, h2]
  unfold bit
  rw [getD_set _ _ _ _ oM]
  by_cases hb : j / 64 = b / 64
  ·rw [if_pos hb, Nat.testBit_or, Nat.testBit_two_pow, hb]
   congr 1
   rw [decide_eq_decide]
   constructor
   ·intro e; exact ⟨rfl, oM⟩
   ·rintro ⟨_, e⟩; omega
  ·rw [if_neg hb]
   have : ¬ (a = a ∧ b = j) := fun e => hb (by rw [e.2])
   rw [decide_eq_false this, Bool.or_false]
 ·rw [if_neg ha]
  simp [ha]
theorem bitM_out {n : Nat} {M : List (List Nat)} (h : MOk n M) {i : Nat} (hi : n ≤ i) (j : Nat) : bitM M i j = false := by
 unfold bitM
 rw [List.getD_eq_getElem?_getD, List.getElem?_eq_none (by rw [h.len]; exact hi)]
 simp [bit]
theorem bit_orRow {a b : List Nat} (h : b.length ≤ a.length) (j : Nat) : bit (orRow a b) j = (bit a j || bit b j) := by
 unfold orRow bit
 rw [updW_getD']
 by_cases h1 : j / 64 < a.length
 ·rw [if_pos h1]
  by_cases h2 : j / 64 < b.length
  ·rw [if_pos h2, Nat.testBit_or]
  ·rw [if_neg h2, Jv7 (ws := b) oM, Nat.zero_testBit, Bool.or_false]
 ·rw [if_neg h1, Jv7 (ws := a) oM, Jv7 (ws := b) oM, Nat.zero_testBit]; rfl
theorem orRow_ok {n : Nat} {a b : List Nat} (ha : a.length = wid n ∧ WOk a) (hb : b.length = wid n ∧ WOk b) : (orRow a b).length = wid n ∧ WOk (orRow a b) := by
 refine ⟨by unfold orRow; rw [updW_len]; exact ha.1, fun x hx => ?_⟩
 unfold orRow updW at hx
 obtain ⟨i, _, rfl⟩ := List.mem_map.1 hx
 split
 ·exact Nat.or_lt_two_pow (ha.2.getD _) (hb.2.getD _)
 ·exact ha.2.getD _
theorem Qn1 {n : Nat} {T : List (List Nat)} (h : MOk n T) {k : Nat} (hk : k < n) (m : Nat) (hm : m ≤ n) : MOk n (Jq4 n T k m) ∧ ∀ i j, bitM (Jq4 n T k m) i j = (bitM T i j || (decide (i < m) && bitM T i k && bitM T k j)) := by
 induction m with
 | zero => exact ⟨h, fun i j => by simp [Jq4]⟩
 | succ m ih =>
  obtain ⟨h1, h2⟩ := ih oM
  rw [Qn8]
  have hkk : ∀ j, bitM (Jq4 n T k m) k j = bitM T k j := fun j => by
   rw [h2]
   cases hb : bitM T k j <;> simp
  have hmk : bitM (Jq4 n T k m) m k = bitM T m k := by rw [h2]; simp
  have hmj : ∀ j, bitM (Jq4 n T k m) m j = bitM T m j := fun j => by rw [h2]; simp
  rw [hmk]
  cases hb : bitM T m k with
  | false =>
   rw [if_neg sI]
   refine ⟨h1, fun i j => ?_⟩
   rw [h2]
   by_cases him : i = m
   ·subst him; rw [hb]; simp
   ·have : decide (i < m) = decide (i < m + 1) := by rw [decide_eq_decide]; omega
    rw [this]
  | true =>
   rw [if_pos rfl]
   obtain ⟨wm, a1, a2, a3⟩ := h1.get (i := m) oM
   obtain ⟨wk, b1, b2, b3⟩ := h1.get hk
   have ho := orRow_ok a3 b3
   rw [a2, b2]
   refine ⟨h1.set ho.1 ho.2, fun i j => ?_⟩
   rw [bitM_set (by rw [h1.len]; omega)]
   by_cases him : i = m
   ·subst him
    rw [if_pos rfl, bit_orRow oM]
    have e1 : bit wm j = bitM (Jq4 n T k i) i j := by unfold bitM; rw [a2]
    have e2 : bit wk j = bitM (Jq4 n T k i) k j := by unfold bitM; rw [b2]
    rw [e1, e2, hmj, hkk, hb]; simp
   ·rw [if_neg him, h2]
    have : decide (i < m) = decide (i < m + 1) := by rw [decide_eq_decide]; omega
    rw [this]
theorem closeTo_ok {n : Nat} {M : List (List Nat)} (h : MOk n M) (m : Nat) (hm : m ≤ n) : MOk n (Jg9 n M m) := by
 induction m with
 | zero => exact h
 | succ m ih => rw [Jr8]; exact (Qn1 (ih oM) oM n lR).1
theorem Js4 {n : Nat} {M : List (List Nat)} (h : MOk n M) {m : Nat} (hm : m < n) (i j : Nat) : bitM (Jg9 n M (m + 1)) i j = (bitM (Jg9 n M m) i j || (bitM (Jg9 n M m) i m && bitM (Jg9 n M m) m j)) := by
 have hT := closeTo_ok h m oM
 rw [Jr8, (Qn1 hT hm n lR).2]
 by_cases hi : i < n
 ·simp [hi]
 ·rw [bitM_out hT oM m]; simp
inductive Ch (R : Nat → Nat → Prop) : Nat → Nat → Prop
 | one {i j : Nat} : R i j → Ch R i j
 | more {i k j : Nat} : R i k → Ch R k j → Ch R i j
theorem Ch.trans {R : Nat → Nat → Prop} {i k j : Nat} (h : Ch R i k) (g : Ch R k j) : Ch R i j := by
 induction h with
 | one h => exact .more h g
 | more h _ ih => exact .more h (ih g)
theorem Ch.mono {R S : Nat → Nat → Prop} (hs : ∀ i j, R i j → S i j) {i j : Nat} (h : Ch R i j) : Ch S i j := by
 induction h with
 | one h => exact .one (hs _ _ h)
 | more h _ ih => exact .more (hs _ _ h) ih
def linkR (M : List (List Nat)) : Nat → Nat → Prop := fun i j => bitM M i j = true
theorem closeTo_sound {n : Nat} {M : List (List Nat)} (h : MOk n M) (m : Nat) (hm : m ≤ n) : ∀ i j, bitM (Jg9 n M m) i j = true → Ch (linkR M) i j := by
 induction m with
 | zero => exact fun i j hb => .one hb
 | succ m ih =>
  intro i j hb
  rw [Js4 h oM] at hb
  rw [Bool.or_eq_true, Bool.and_eq_true] at hb
  rcases hb with hb | ⟨h1, h2⟩
  ·exact ih oM i j hb
  ·exact (ih oM i m h1).trans (ih oM m j h2)
theorem Qb4 {n : Nat} {M : List (List Nat)} (h : MOk n M) (m : Nat) (hm : m ≤ n) : ∀ i j, bitM M i j = true → bitM (Jg9 n M m) i j = true := by
 induction m with
 | zero => exact fun i j hb => hb
 | succ m ih => intro i j hb; rw [Js4 h oM, ih oM i j hb]; rfl
theorem closeTo_tran {n : Nat} {M : List (List Nat)} (h : MOk n M) (m : Nat) (hm : m ≤ n) : ∀ k, k < m → ∀ i j, bitM (Jg9 n M m) i k = true → bitM (Jg9 n M m) k j = true → bitM (Jg9 n M m) i j = true := by
 induction m with
 | zero => intro k hk; omega
 | succ m ih =>
  have P := ih oM
  intro k hk i j h1 h2
  rw [Js4 h oM, Bool.or_eq_true, Bool.and_eq_true] at h1 h2 ⊢
  by_cases hkm : k = m
  ·subst hkm
   have g1 : bitM (Jg9 n M k) i k = true := by rcases h1 with h1 | h1; exact h1; exact h1.1
   have g2 : bitM (Jg9 n M k) k j = true := by rcases h2 with h2 | h2; exact h2; exact h2.2
   exact .inr ⟨g1, g2⟩
  ·have Pk := P k oM
   rcases h1 with h1 | ⟨h1, h1'⟩
   ·rcases h2 with h2 | ⟨h2, h2'⟩
    ·exact .inl (Pk i j h1 h2)
    ·exact .inr ⟨Pk i m h1 h2, h2'⟩
   ·rcases h2 with h2 | ⟨h2, h2'⟩
    ·exact .inr ⟨h1, Pk m j h1' h2⟩
    ·exact .inr ⟨h1, h2'⟩
theorem closeM_iff {n : Nat} {M : List (List Nat)} (h : MOk n M) (i j : Nat) : bitM (Ql0 n M) i j = true ↔ Ch (linkR M) i j := by
 constructor
 ·exact closeTo_sound h n lR i j
 ·intro hc
  induction hc with
  | one hb => exact Qb4 h n lR _ _ hb
  | more hb hc ih =>
   rename_i i k j
   have hk : k < n := by
    apply Classical.byContradiction
    intro hn
    have hz : ∀ j, bitM M k j = false := bitM_out h oM
    cases hc with
    | one hb => unfold linkR at hb; rw [hz] at hb; cases hb
    | more hb _ => unfold linkR at hb; rw [hz] at hb; cases hb
   exact closeTo_tran h n lR k hk i j (Qb4 h n lR _ _ hb) ih
theorem Ch.last {R : Nat → Nat → Prop} {i j : Nat} (h : Ch R i j) : ∃ k, R k j := by
 induction h with
 | one h => exact ⟨_, h⟩
 | more _ _ ih => exact ih
end Go.Vc

namespace Go.Vc
open Go Go.Proofs
set_option maxRecDepth 20000
section
variable {w : World}
structure ZAt (w : World) (p n : Nat) (bs : List Nat) (M : List (List Nat)) (ad : Option Addr) (cap : Nat) : Prop where
 hdr : Blk w p [B true, I n, .slice ad n cap] 241
 own : OwnS w 242 1 ad n cap (bs.map (rowV (wid n)))
 nb : bs.length = n
 nM : M.length = n
 small : n ≤ 2048
 row : ∀ (i b : Nat) (ws : List Nat), bs[i]? = some b → M[i]? = some ws → Blk w b (ws.map U) 174 ∧ ws.length = wid n ∧ WOk ws
 nodup : bs.Nodup
section
variable {p n : Nat} {bs : List Nat} {M : List (List Nat)} {ad : Option Addr} {cap : Nat}
theorem ZAt.at_row (h : ZAt w p n bs M ad cap) {i : Nat} (hi : i < n) : ∃ b ws, bs[i]? = some b ∧ M[i]? = some ws ∧ Blk w b (ws.map U) 174 ∧ ws.length = wid n ∧ WOk ws := by
 have h1 : bs[i]? = some (bs[i]'(by rw [h.nb]; exact hi)) := List.getElem?_eq_getElem _
 have h2 : M[i]? = some (M[i]'(by rw [h.nM]; exact hi)) := List.getElem?_eq_getElem _
 exact ⟨_, _, h1, h2, h.row i _ _ h1 h2⟩
theorem ZAt.kp {w' : World} (h : ZAt w p n bs M ad cap) {S : List Nat} (hk : Kp S w w') (hd : ∀ b, b ∈ Jd3 p ad bs → b ∉ S) : ZAt w' p n bs M ad cap :=
 ⟨hk.blk (hd p (by simp [Jd3])) h.hdr, h.own.kp hk (fun b hb => hd b (by simp [Jd3, hb])), h.nb, h.nM, h.small,
  fun i b ws h1 h2 => ⟨hk.blk (hd b (by simp [Jd3, List.mem_of_getElem? h1])) (h.row i b ws h1 h2).1, (h.row i b ws h1 h2).2⟩, h.nodup⟩
theorem ZAt.kp0 {w' : World} (h : ZAt w p n bs M ad cap) (hk : Kp [] w w') : ZAt w' p n bs M ad cap := h.kp hk sI
theorem ZAt.sm {w' : World} (h : ZAt w p n bs M ad cap) (hs : Sm w w') : ZAt w' p n bs M ad cap := h.kp0 (hs.kp [])
theorem ZAt.lt (h : ZAt w p n bs M ad cap) : ∀ b, b ∈ Jd3 p ad bs → b < w.heap.size := by
 intro b hb
 rcases List.mem_cons.1 hb with rfl | hb
 ·exact h.hdr.lt
 ·rcases List.mem_append.1 hb with hb | hb
  ·exact h.own.lt b hb
  ·obtain ⟨i, hi⟩ := List.getElem?_of_mem hb
   have hlt : i < n := by rw [← h.nb]; exact (List.getElem?_eq_some_iff.1 hi).1
   obtain ⟨b', ws, h1, _, h3, _⟩ := h.at_row hlt
   rw [hi] at h1; cases h1; exact h3.lt
end
structure ZTo (w : World) (p n : Nat) (bs : List Nat) (ad : Option Addr) (cap : Nat) (w' : World) (M' : List (List Nat)) : Prop where
 at_ : ZAt w' p n bs M' ad cap
 kp : Kp (Jd3 p ad bs) w w'
section
variable {p n : Nat} {bs : List Nat} {M : List (List Nat)} {ad : Option Addr} {cap : Nat}
theorem ZTo.refl (h : ZAt w p n bs M ad cap) : ZTo w p n bs ad cap w M := ⟨h, Kp.refl _ _⟩
theorem ZTo.trans {w1 w2 : World} {M1 M2 : List (List Nat)} (h : ZTo w p n bs ad cap w1 M1) (k : ZTo w1 p n bs ad cap w2 M2) : ZTo w p n bs ad cap w2 M2 := ⟨k.at_, h.kp.trans k.kp⟩
theorem ZTo.sm {w1 w2 : World} {M1 : List (List Nat)} (h : ZTo w p n bs ad cap w1 M1) (hs : Sm w1 w2) : ZTo w p n bs ad cap w2 M1 := ⟨h.at_.sm hs, h.kp.trans (hs.kp _)⟩
theorem ZAt.ad_blk (h : ZAt w p n bs M ad cap) {b : Nat} (hb : b ∈ Ja1 ad) : ∃ l, Blk w b l 242 := by
 have ho := h.own.2
 cases ad with
 | none => simp [Ja1] at hb
 | some ad =>
  simp [Ja1] at hb; subst hb
  obtain ⟨_, _, _, _, junk, h5, _⟩ := ho
  exact ⟨_, h5⟩
theorem ZAt.stored {w1 w2 : World} (h : ZAt w p n bs M ad cap) (hs : Sm w w1) {i b k x : Nat} {ws : List Nat} (hb : bs[i]? = some b) (hM : M[i]? = some ws) (hx : x < 2 ^ 64)
  (hu : Upd w1 b (.cells ⟨(ws.map U).set k (U x)⟩ 174 (0, 0)) w2) : ZTo w p n bs ad cap w2 (M.set i (ws.set k x)) := by
 obtain ⟨hB, hl, hok⟩ := h.row i b ws hb hM
 have hmem : b ∈ bs := List.mem_of_getElem? hb
 have hpb : p ≠ b := Jn6 h.hdr hB dE
 have hi : i < M.length := (List.getElem?_eq_some_iff.1 hM).1
 refine ⟨⟨hu.kept hpb (hs.blk h.hdr), ?_, h.nb, by simpa using h.nM, h.small, ?_, h.nodup⟩, (hs.kp _).trans (hu.kp _ (.inl (by simp [Jd3, hmem])))⟩
 ·refine (h.own.sm hs).upd hu fun hb2 => ?_
  obtain ⟨l, hl2⟩ := h.ad_blk hb2
  exact Jn6 hl2 hB dE rfl
 ·intro j b' ws' h1 h2
  by_cases hij : i = j
  ·subst hij
   rw [hb] at h1; cases h1
   rw [List.getElem?_set_self hi] at h2
   cases h2
   refine ⟨?_, by simpa using hl, hok.set hx⟩
   have := hu.blk
   rwa [List.map_set]
  ·rw [List.getElem?_set_ne hij] at h2
   obtain ⟨g1, g2⟩ := h.row j b' ws' h1 h2
   refine ⟨hu.kept (fun e => ?_) (hs.blk g1), g2⟩
   subst e
   obtain ⟨e1, e3⟩ := (List.getElem?_eq_some_iff.1 hb)
   obtain ⟨e2, e4⟩ := (List.getElem?_eq_some_iff.1 h1)
   have hp := List.pairwise_iff_getElem.1 h.nodup
   rcases Nat.lt_or_gt_of_ne hij with hlt | hlt
   ·exact hp i j e1 e2 hlt (by rw [e3, e4])
   ·exact hp j i e2 e1 hlt (by rw [e3, e4])
end
theorem Qa7 {p n : Nat} {bs : List Nat} {M : List (List Nat)} {ad : Option Addr} {cap : Nat} (h : ZAt w p n bs M ad cap) : Ret Tryz.prog 134 [ptr p] w (fun v w' => v = .bool true ∧ w' = w) := by
 refine Ze Tryz.call134 Tryz.func134 ?_
 refine zS ?_
 refine Zl rfl h.hdr ?_
 refine zS ?_
 exact ⟨_, rfl, rfl, rfl⟩
theorem Jw5 {p n : Nat} {bs : List Nat} {M : List (List Nat)} {ad : Option Addr} {cap : Nat} (h : ZAt w p n bs M ad cap) (i : Int) : Ret Tryz.prog 135 [ptr p, I i] w (fun v w' => v = .bool (Jv2 n i) ∧ w' = w) := by
 refine Ze Tryz.call135 Tryz.func135 ?_
 refine zS ?_
 refine Ja5 2 true rfl rfl rfl (fun hb => ?_) (fun hb => ?_)
 ·have hb' : 0 ≤ i := by simpa using hb
  refine zS ?_
  refine Zl rfl h.hdr ?_
  refine zS ?_
  exact ⟨_, rfl, by simp [Jv2, hb'], rfl⟩
 ·have hb' : ¬ 0 ≤ i := by simpa using hb
  refine zS ?_
  exact ⟨_, rfl, by simp [Jv2, hb'], rfl⟩
structure ZNew (w : World) (p n : Nat) (w' : World) (bs : List Nat) (M : List (List Nat)) (ad : Option Addr) (cap : Nat) : Prop where
 at_ : ZAt w' p n bs M ad cap
 kp : Kp [] w w'
 new : ∀ b, b ∈ Jd3 p ad bs → w.heap.size ≤ b
theorem Qc1 {n : Nat} (hn : n ≤ 2048) : Ret Tryz.prog 90 [I n] w (fun v w' => ∃ p bs ad cap, v = .tuple #[ptr p, I 0] ∧ ZNew w p n w' bs (zeroM n) ad cap) := by
 refine Ze Tryz.call90 Tryz.func90 ?_
 refine zS ?_
 refine r_no rfl (by simp; omega) ?_
 refine zS ?_
 refine Zb [B true, I n, .slice none 0 0] ?_
 refine Zx ?_
 intro p w1 hp hu1
 refine zS ?_
 refine Jb4 (α := Nat × List Nat × Option Addr × Nat) [0, 4, 14, 15] (fun g => [I n, ptr p, I n, I g.1])
  (fun g w2 => Blk w2 p [B true, I n, .slice g.2.2.1 g.1 g.2.2.2] 241 ∧ OwnS w2 242 1 g.2.2.1 g.1 g.2.2.2 (g.2.1.map (rowV (wid n))) ∧ g.2.1.length = g.1 ∧ g.1 ≤ n ∧ Kp [] w w2 ∧ (∀ b ∈ g.2.1, Blk w2 b (List.replicate (wid n) (U 0)) 174) ∧ g.2.1.Nodup ∧ (∀ b ∈ Jd3 p g.2.2.1 g.2.1, w.heap.size ≤ b)) (fun g => n - g.1) (0, [], none, 0) rfl
  ⟨hu1.blk, Jd6 _ _ _, rfl, oM, hu1.new oM, sI, List.nodup_nil, by simp [Jd3, Ja1]; omega⟩ ?_
 rintro ⟨i, bs, ad, cap⟩ e w2 ⟨hH, hO, hlen, hi, hk, hrows, hnd, hnew⟩
 dsimp only at hH hO hlen hi hk hrows hnd hnew ⊢
 refine zS ?_
 refine r_if rfl (fun hc => ?_) (fun hc => ?_)
 rotate_left
 ·have : i = n := oM
  subst this
  refine zS ?_
  refine ⟨_, rfl, p, bs, ad, cap, rfl, ⟨hH, hO, hlen, by simp [zeroM], hn, ?_, hnd⟩, hk, hnew⟩
  ·intro j b ws h1 h2
   have hj : j < i := by rw [← hlen]; exact (List.getElem?_eq_some_iff.1 h1).1
   unfold zeroM at h2
   rw [List.getElem?_replicate, if_pos hj] at h2
   cases h2
   refine ⟨?_, sI, WOk.zeros _⟩
   rw [List.map_replicate]; exact hrows b (List.mem_of_getElem? h1)
 ·refine zS ?_
  refine Jo6 (fun w' => Blk w' p [B true, I n, .slice ad i cap] 241) [(0, false), (1, false), (2, false), (3, false), (4, false), (5, false), (6, false), (7, false), (8, true), (9, true), (10, true), (11, false), (12, false), (13, true)] Ja0 kR kR kR ((Sm.drew w2).blk hH) ?_
  have hO := hO.sm (Sm.drew w2)
  have hk := hk.trans ((Sm.drew w2).kp [])
  have hrows : ∀ b ∈ bs, Blk { w2 with drawn := w2.drawn + 1 } b (List.replicate (wid n) (U 0)) 174 := fun b hb => (Sm.drew w2).blk (hrows b hb)
  have hH := (Sm.drew w2).blk hH
  generalize ({ w2 with drawn := w2.drawn + 1 } : World) = w2 at hO hk hrows hH ⊢
  refine zX ?_
  refine Zy rfl rfl (fun w' h' => h'.cell rfl) ?_
  refine zX ?_
  have hdiv : Int.tdiv ((n : Int) + 63) 64 = ((wid n : Nat) : Int) := by
   have := tdiv64 (n + 63); unfold wid; rw [← this]; rfl
  have hwid : wid n ≤ 32 := by unfold wid; omega
  refine Jh2 rfl ?_
  refine o_make (len := (wid n : Int)) (cap := (wid n : Int)) (kl := .i64) (kc := .i64) (congrArg (Value.int .i64) hdiv) (congrArg (Value.int .i64) hdiv) rfl rfl rfl oM oM oM oM rfl rfl ?_
  intro b3 w3 hb3 hu3
  rw [Int.toNat_natCast] at hu3 ⊢
  have k3 : Kp [] w2 w3 := hu3.new oM
  have hH3 := k3.b0 hH
  refine Ja6 ⟨.inr hH3, ?_⟩
  refine Jh2 rfl ?_
  refine Zu [rowV (wid n) b3] rfl (by simp [Value.oneCell']) rfl dE dE ?_
  intro b4 w4 hb4 hu4
  have k4 : Kp [] w3 w4 := hu4.new oM
  have hH4 := k4.b0 hH3
  refine Ja6 ⟨.inr hH4, ?_⟩
  refine Jh2 rfl ?_
  refine Jh3 rfl rfl ((hO.kp k3 sI).kp k4 sI) hu4.blk rfl rfl rfl rfl (by simp only [maxLen]; omega) oM rfl rfl ?_
  intro ad5 cap5 w5 ho5 k5 hnew5
  have s3 := hu3.size
  have s4 := hu4.size
  have sk := hk.size
  have pad : p ∉ Ja1 ad := fun hb => by
   obtain ⟨_, _, _, _, junk, h5, _⟩ : ∃ a b c d junk, Blk w2 p junk 242 ∧ True := by
    have ho := hO.2
    cases ad with
    | none => simp [Ja1] at hb
    | some ad =>
     simp [Ja1] at hb; subst hb
     obtain ⟨_, _, _, _, junk, h5, _⟩ := ho
     exact ⟨0, 0, 0, 0, _, h5, trivial⟩
   exact Jn6 hH h5 dE rfl
  have hH5 := k5.blk pad hH4
  refine Ja6 ⟨.inr hH5, ?_⟩
  refine zX ?_
  refine Jh2 rfl ?_
  refine Zt rfl hH5 sI ?_
  intro w6 hu6
  refine Ja6 ⟨.inl kR, ?_⟩
  refine zX ?_
  refine zS ?_
  have p5 : p ∉ Ja1 ad5 := fun hb => by
   rcases hnew5 p hb with h1 | h1
   ·exact pad h1
   ·have := hH.lt; omega
  have k36 : Kp (p :: Ja1 ad) w2 w6 := (((k3.trans k4).mono (S' := p :: Ja1 ad) sI).after k5 (fun b hb => .inl (by simp [hb]))).after (hu6.kp [p] (.inl sI)) (fun b hb => .inl (by simp at hb; simp [hb]))
  have oldrow : ∀ b ∈ bs, b ∉ p :: Ja1 ad := fun b hb hb2 => by
   have hB := hrows b hb
   rcases List.mem_cons.1 hb2 with rfl | hb2
   ·exact Jn6 hH hB dE rfl
   ·have ho := hO.2
    cases ad with
    | none => simp [Ja1] at hb2
    | some ad =>
     simp [Ja1] at hb2; subst hb2
     obtain ⟨_, _, _, _, junk, h5, _⟩ := ho
     exact Jn6 h5 hB dE rfl
  refine ⟨(i + 1, bs ++ [b3], ad5, cap5), rfl, ⟨hu6.blk, ?_, by simp [hlen], by dsimp only; omega, hk.since k36 (fun b hb => hnew b (by rcases List.mem_cons.1 hb with rfl | hb; simp [Jd3]; simp [Jd3, hb])), ?_, ?_, ?_⟩, by dsimp only; omega⟩
  ·dsimp only; rw [List.map_append]; exact ho5.upd hu6 p5
  ·intro b hb
   rcases List.mem_append.1 hb with hb | hb
   ·exact k36.blk (oldrow b hb) (hrows b hb)
   ·simp at hb; subst hb
    have h1 := hu3.blk
    have h2 := k4.b0 h1
    have hb5 : b ∉ Ja1 ad := fun hm => by have := hO.lt b hm; omega
    have h3 := k5.blk hb5 h2
    exact hu6.kept (fun e => by subst e; have := hH.lt; omega) h3
  ·dsimp only
   rw [List.nodup_append]
   refine ⟨hnd, sI, fun a ha b hb => ?_⟩
   simp at hb; subst hb
   have := (hrows a ha).lt; omega
  ·dsimp only
   intro b hb
   unfold Jd3 at hb
   rcases List.mem_cons.1 hb with rfl | hb
   ·exact hnew _ (by simp [Jd3])
   ·rcases List.mem_append.1 hb with hb | hb
    ·rcases hnew5 b hb with h1 | h1
     ·exact hnew b (by simp [Jd3, h1])
     ·omega
    ·rcases List.mem_append.1 hb with hb | hb
     ·exact hnew b (by simp [Jd3, hb])
     ·simp at hb; omega
section
variable {p n : Nat} {bs : List Nat} {M : List (List Nat)} {ad : Option Addr} {cap : Nat}
theorem ZAt.cells (h : ZAt w p n bs M ad cap) {i : Nat} (hi : i < n) : ∃ ba b ws, ad = some ⟨ba, 0, none⟩ ∧ bs[i]? = some b ∧ M[i]? = some ws ∧ Blk w b (ws.map U) 174 ∧ ws.length = wid n ∧ WOk ws ∧ w.cell? ⟨ba, i, none⟩ = some (rowV (wid n) b) ∧ ∀ k, k < wid n → w.cell? ⟨b, k, none⟩ = some (U (ws.getD k 0)) := by
 obtain ⟨b, ws, h1, h2, h3, h4, h5⟩ := h.at_row hi
 have ho := h.own
 cases ad with
 | none => have := ho.2.1; omega
 | some ad =>
  obtain ⟨ba, off, spot⟩ := ad
  obtain ⟨e1, e2, _⟩ := ho.2
  cases e1; cases e2
  refine ⟨ba, b, ws, rfl, h1, h2, h3, h4, h5, ?_, fun k hk => ?_⟩
  ·exact ho.get (by rw [List.getElem?_map, h1]; rfl)
  ·refine h3.cell ?_
   rw [List.getElem?_map, List.getD_eq_getElem?_getD, List.getElem?_eq_getElem oM]; rfl
theorem zLink_ret (h : ZAt w p n bs M ad cap) {i j : Nat} (hi : i < n) (hj : j < n) :
  Ret Tryz.prog 92 [ptr p, I i, I j] w (fun v w' => v = I 0 ∧ ZTo w p n bs ad cap w' (linkM M i j)) := by
 obtain ⟨ba, b, ws, rfl, hb, hM, hB, hl, hok, hca, hcw⟩ := h.cells hi
 have hn := h.small
 refine Ze Tryz.call92 Tryz.func92 ?_
 refine zS ?_
 refine Zc (Qa7 h) ?_
 rintro v w1 ⟨rfl, rfl⟩
 refine zS ?_
 have n1 : Jv2 n (i : Int) = true := by unfold Jv2; simp; omega
 have n2 : Jv2 n (j : Int) = true := by unfold Jv2; simp; omega
 refine Zc (Jw5 h i) ?_
 rintro v w2 ⟨rfl, rfl⟩
 rw [n1]
 refine zS ?_
 refine Zc (Jw5 h j) ?_
 rintro v w1 ⟨rfl, rfl⟩
 rw [n2]
 refine zS ?_
 have hjw := wid_lt hj
 have hd := tdiv64 j
 refine Ja9 ?_
 refine Je9 Ja0 rfl kR kR ?_
 dsimp only [List.dropLast]
 have hs0 : ∀ w', Sm w1 w' → w'.heap = w1.heap := fun w' hs => hs.heap
 refine zQ ?_
 refine Zq rfl (fun w hs => (hs.blk h.hdr).cell rfl) ?_
 refine zQ ?_
 refine Zq (v := rowV (wid n) b) rfl (fun w hs => ?_) ?_
 ·show w.cell? ⟨ba, 0 + i, none⟩ = _
  rw [Nat.zero_add, ← hca]; exact World.cell?_of_block (by rw [hs.heap])
 refine zQ ?_
 refine Zq (v := U (ws.getD (j / 64) 0)) rfl (fun w hs => ?_) ?_
 ·show w.cell? ⟨b, 0 + (Int.tdiv (j : Int) 64).toNat, none⟩ = _
  rw [hd, Int.toNat_natCast, Nat.zero_add, ← hcw _ hjw]; exact World.cell?_of_block (by rw [hs.heap])
 refine zQ ?_
 intro w3 hs3
 have hx := hok.getD (j / 64)
 have e1 : Qf1 .or .u64 ((ws.getD (j / 64) 0 : Nat) : Int) (IntKind.u64.wrap (1 * 2 ^ (min (Int.tmod (j : Int) 64).toNat 64))) = ((ws.getD (j / 64) 0 ||| 2 ^ (j % 64) : Nat) : Int) := by
  rw [tmod64, Int.toNat_natCast, shl_one oM, ibits_or hx (Nat.pow_lt_pow_right oM oM)]
 have hx2 : ws.getD (j / 64) 0 ||| 2 ^ (j % 64) < 2 ^ 64 := Nat.or_lt_two_pow hx (Nat.pow_lt_pow_right oM oM)
 refine o_store (b := b) (off := j / 64) (v := U (ws.getD (j / 64) 0 ||| 2 ^ (j % 64))) (c := none) ?_ (hs3.blk hB) (by simp; omega) ?_ rfl rfl rfl rfl rfl ?_
 ·show Value.pointer (some ⟨b, 0 + (Int.tdiv (j : Int) 64).toNat, none⟩) = _
  rw [hd, Int.toNat_natCast, Nat.zero_add]
 ·exact congrArg (fun z => some (none, Value.int .u64 z)) e1
 intro w4 hu4
 have hst := h.stored hs3 hb hM hx2 hu4
 refine zS ?_
 refine ⟨_, rfl, rfl, ?_⟩
 unfold linkM
 rw [List.getD_eq_getElem?_getD, hM]
 exact hst
theorem Qf6 (h : ZAt w p n bs M ad cap) (i j : Int) :
  Ret Tryz.prog 136 [ptr p, I i, I j] w (fun v w' => v = .bool (Jr7 n M i j) ∧ w' = w) := by
 have hn := h.small
 refine Ze Tryz.call136 Tryz.func136 ?_
 refine zS ?_
 refine Zc (Qa7 h) ?_
 rintro v w1 ⟨rfl, rfl⟩
 refine zS ?_
 refine Zc (Jw5 h i) ?_
 rintro v w2 ⟨rfl, rfl⟩
 cases n1 : Jv2 n i with
 | false =>
  refine zS ?_
  exact ⟨_, rfl, by simp [Jr7, n1], rfl⟩
 | true =>
  refine zS ?_
  refine Zc (Jw5 h j) ?_
  rintro v w1 ⟨rfl, rfl⟩
  cases n2 : Jv2 n j with
  | false =>
   refine zS ?_
   exact ⟨_, rfl, by simp [Jr7, n1, n2], rfl⟩
  | true =>
   obtain ⟨i, rfl, hi⟩ := nodeB_nat n1
   obtain ⟨j, rfl, hj⟩ := nodeB_nat n2
   obtain ⟨ba, b, ws, rfl, hb, hM, hB, hl, hok, hca, hcw⟩ := h.cells hi
   have hjw := wid_lt hj
   have hd := tdiv64 j
   refine zS ?_
   refine Zl rfl h.hdr ?_
   refine zS ?_
   refine Zo (v := rowV (wid n) b) rfl ?_ ?_
   ·show w1.cell? ⟨ba, 0 + i, none⟩ = _
    rw [Nat.zero_add]; exact hca
   refine zS ?_
   refine Zo (v := U (ws.getD (j / 64) 0)) rfl ?_ ?_
   ·show w1.cell? ⟨b, 0 + (Int.tdiv (j : Int) 64).toNat, none⟩ = _
    rw [hd, Int.toNat_natCast, Nat.zero_add]; exact hcw _ hjw
   refine zS ?_
   refine ⟨_, rfl, ?_, rfl⟩
   show Value.bool (!decide (Qf1 .and .u64 (Int.fdiv ((ws.getD (j / 64) 0 : Nat) : Int) (2 ^ (min (Int.tmod (j : Int) 64).toNat 64))) 1 = 0)) = _
   rw [bit_shr (hok.getD _)]
   refine congrArg Value.bool ?_
   unfold Jr7
   rw [n1, n2, Int.toNat_natCast, Int.toNat_natCast, bitM_row hM]
   unfold bit
   rw [Bool.eq_iff_iff]
   simp only [Bool.not_eq_true', decide_eq_false_iff_not, bit_and1]
   simp
theorem zClose_ret (h : ZAt w p n bs M ad cap) :
  Ret Tryz.prog 93 [ptr p] w (fun v w' => v = I 0 ∧ ZTo w p n bs ad cap w' (Ql0 n M)) := by
 have hn := h.small
 have hwn : wid n ≤ 32 := by unfold wid; omega
 refine Ze Tryz.call93 Tryz.func93 ?_
 refine zS ?_
 refine Zc (Qa7 h) ?_
 rintro v w1 ⟨rfl, rfl⟩
 refine zS ?_
 refine Zl rfl h.hdr ?_
 refine zS ?_
 refine Jb4 (α := Nat) [0, 13, 14] (fun k => [ptr p, I n, I k]) (fun k w2 => ZTo w1 p n bs ad cap w2 (Jg9 n M k) ∧ k ≤ n) (fun k => n - k) 0 rfl ⟨ZTo.refl h, oM⟩ ?_
 rintro k e w2 ⟨hto, hk⟩
 refine zS ?_
 refine r_if rfl (fun hc => ?_) (fun hc => ?_)
 rotate_left
 ·have : k = n := oM
  subst this
  refine zS ?_
  exact ⟨_, rfl, rfl, hto⟩
 have hkn : k < n := oM
 refine zS ?_
 refine Zl rfl hto.at_.hdr ?_
 refine zS ?_
 generalize hN : Jg9 n M k = N at hto
 refine Jb4 (α := Nat) [0, 3, 13, 14, 20, 21] (fun i => [ptr p, I k, I n, I k, I n, I i]) (fun i w3 => ZTo w1 p n bs ad cap w3 (Jq4 n N k i) ∧ i ≤ n) (fun i => n - i) 0 rfl ⟨hto, oM⟩ ?_
 rintro i e w3 ⟨hto3, hi⟩
 refine zS ?_
 refine r_if rfl (fun hc2 => ?_) (fun hc2 => ?_)
 rotate_left
 ·have : i = n := oM
  subst this
  refine zS ?_
  refine ⟨k + 1, rfl, ⟨?_, oM⟩, oM⟩
  rw [Jr8, hN]
  exact hto3
 have hin : i < n := oM
 have hss := Qn8 n N k i
 generalize Jq4 n N k i = S at hto3 hss
 have h3 := hto3.at_
 refine zS ?_
 refine Zc (Qf6 h3 i k) ?_
 rintro v w4 ⟨rfl, rfl⟩
 have hlb : Jr7 n S (i : Int) (k : Int) = bitM S i k := by
  unfold Jr7 Jv2
  simp
  omega
 rw [hlb]
 cases hbit : bitM S i k with
 | false =>
  rw [hbit, if_neg sI] at hss
  refine zS ?_
  exact ⟨i + 1, rfl, ⟨by rw [hss]; exact hto3, oM⟩, oM⟩
 | true =>
  rw [hbit, if_pos rfl] at hss
  refine zS ?_
  refine Zl rfl h3.hdr ?_
  obtain ⟨ba, bk, wk, hade, hbk, hMk, hBk, hlk, hok, hca, _⟩ := h3.cells hkn
  obtain ⟨ba', bi, wi, hade', hbi, hMi, hBi, hli, hoi, hca', _⟩ := h3.cells hin
  rw [hade] at hade'
  cases hade'
  have hSi : S.getD i [] = wi := by rw [List.getD_eq_getElem?_getD, hMi]; rfl
  have hSk : S.getD k [] = wk := by rw [List.getD_eq_getElem?_getD, hMk]; rfl
  rw [hSi, hSk] at hss
  subst hade
  refine zS ?_
  refine Zo (v := rowV (wid n) bk) rfl ?_ ?_
  ·show w4.cell? ⟨ba, 0 + k, none⟩ = _
   rw [Nat.zero_add]; exact hca
  refine zS ?_
  refine Jb4 (α := Nat) [0, 3, 4, 13, 14, 20, 21, 35, 36, 37] (fun a => [ptr p, I k, I i, I n, I k, I n, I i, rowV (wid n) bk, I (wid n), I a]) (fun a w5 => ZTo w1 p n bs (some ⟨ba, 0, none⟩) cap w5 (S.set i (updW (· ||| ·) wi wk a)) ∧ a ≤ wid n) (fun a => wid n - a) 0 rfl ⟨by rw [updW_zero, set_self hMi]; exact hto3, oM⟩ ?_
  rintro a e w5 ⟨hto5, ha⟩
  refine zS ?_
  refine r_if rfl (fun hc3 => ?_) (fun hc3 => ?_)
  rotate_left
  ·have : a = wid n := oM
   subst this
   refine zS ?_
   refine ⟨i + 1, rfl, ⟨?_, oM⟩, oM⟩
   rw [hss]
   unfold orRow
   rw [hlk]
   exact hto5
  have hlt : a < wid n := oM
  have h5 := hto5.at_
  have hiS : i < S.length := (List.getElem?_eq_some_iff.1 hMi).1
  have hMi5 : (S.set i (updW (· ||| ·) wi wk a))[i]? = some (updW (· ||| ·) wi wk a) := List.getElem?_set_self hiS
  obtain ⟨hBi5, hli5, hoi5⟩ := h5.row i bi _ hbi hMi5
  have hx1 := hoi.getD a
  have hx2 := hok.getD a
  have ca5 : ∀ j b, bs[j]? = some b → w5.cell? ⟨ba, j, none⟩ = some (rowV (wid n) b) := fun j b hb => h5.own.get (by rw [List.getElem?_map, hb]; rfl)
  have hwk : w5.cell? ⟨bk, a, none⟩ = some (U (wk.getD a 0)) := by
   by_cases hik : i = k
   ·subst hik
    rw [hbi] at hbk; cases hbk
    rw [hMi] at hMk; cases hMk
    refine hBi5.cell ?_
    rw [updW_or_self, List.getElem?_map, List.getD_eq_getElem?_getD, List.getElem?_eq_getElem oM]; rfl
   ·have hMk5 : (S.set i (updW (· ||| ·) wi wk a))[k]? = some wk := by rw [List.getElem?_set_ne hik]; exact hMk
    refine (h5.row k bk _ hbk hMk5).1.cell ?_
    rw [List.getElem?_map, List.getD_eq_getElem?_getD, List.getElem?_eq_getElem oM]; rfl
  have hwi : w5.cell? ⟨bi, a, none⟩ = some (U (wi.getD a 0)) := by
   refine hBi5.cell ?_
   have hg := updW_getD (· ||| ·) wi wk a a oM
   rw [if_neg oM] at hg
   rw [List.getElem?_map, ← hg, List.getD_eq_getElem?_getD, List.getElem?_eq_getElem oM]; rfl
  refine zS ?_
  refine Zo (v := U (wk.getD a 0)) rfl ?_ ?_
  ·show w5.cell? ⟨bk, 0 + a, none⟩ = _
   rw [Nat.zero_add]; exact hwk
  refine zS ?_
  refine Zl rfl h5.hdr ?_
  refine zS ?_
  refine Zo (v := rowV (wid n) bi) rfl ?_ ?_
  ·show w5.cell? ⟨ba, 0 + i, none⟩ = _
   rw [Nat.zero_add]; exact ca5 i bi hbi
  refine zS ?_
  refine Zo (v := U (wi.getD a 0)) rfl ?_ ?_
  ·show w5.cell? ⟨bi, 0 + a, none⟩ = _
   rw [Nat.zero_add]; exact hwi
  refine zS ?_
  have e1 := ibits_or hx1 hx2
  refine o_store (b := bi) (off := a) (v := U (wi.getD a 0 ||| wk.getD a 0)) (c := none) ?_ hBi5 (by simp; omega) ?_ rfl rfl rfl rfl rfl ?_
  ·show Value.pointer (some ⟨bi, 0 + a, none⟩) = _
   rw [Nat.zero_add]
  ·exact congrArg (fun z => some (none, Value.int .u64 z)) e1
  intro w6 hu6
  have hst := h5.stored (Sm.refl _) hbi hMi5 (Nat.or_lt_two_pow hx1 hx2) hu6
  rw [updW_set _ _ _ _ oM, List.set_set] at hst
  refine zS ?_
  exact ⟨a + 1, rfl, ⟨hto5.trans hst, oM⟩, oM⟩
end
theorem ZAt.mok {w : World} {p n : Nat} {bs : List Nat} {M : List (List Nat)} {ad : Option Addr} {cap : Nat} (h : ZAt w p n bs M ad cap) : MOk n M :=
 ⟨h.nM, fun ws hw => by
  obtain ⟨i, hi⟩ := List.getElem?_of_mem hw
  have hlt : i < n := by rw [← h.nM]; exact (List.getElem?_eq_some_iff.1 hi).1
  obtain ⟨b, ws', _, h2, _, h4⟩ := h.at_row hlt
  rw [hi] at h2; cases h2; exact h4⟩
end
end Go.Vc
