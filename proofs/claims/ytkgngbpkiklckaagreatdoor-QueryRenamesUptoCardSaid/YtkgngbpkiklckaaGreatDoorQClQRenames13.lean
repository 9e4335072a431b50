/- Query: is, must. -/
import Derived.Test.YtkgngbpkiklckaaGreatDoorQClQRenames12
import Derived.Test.YtkgngbpkiklckaaGreatDoorQClQRenames9
namespace Go.Vc
open Go Go.Proofs
set_option maxRecDepth 10000
variable {w : World} {p : Nat} {txt : List UInt8} {s : TS}
/-- the token that stands there -/
def TS.hd : TS → Tok
  | .tok t _ => t
  | .stop j => ⟨[], -1, j⟩
  | .bad j => ⟨[], -1, j⟩
def TS.ix : TS → Nat
  | .tok t _ => t.at_ + t.text.length
  | .stop j => j
  | .bad j => j
theorem PAt.pb (h : PAt w p txt s) : PB w p txt s.ix s.hd := by
  cases s with
  | tok t r => exact h.1
  | stop j => exact h.2
  | bad j => exact h.elim
theorem PAt.kp {w' : World} {F : List Nat} (h : PAt w p txt s) (hk : Kp F w w') (hp : p ∉ F) : PAt w' p txt s := by
  cases s with
  | tok t r => exact ⟨hk.blk hp h.1, h.2⟩
  | stop j => exact ⟨h.1, hk.blk hp h.2⟩
  | bad j => exact h.elim
/-- what is thrown, by the model -/
def OutE {α : Type} (r : Except (Int × Int) α) (p : Nat) (w : World) : Value → World → Prop := fun v w' => ∃ c i : Int, r = .error (c, i) ∧ v = refV c i ∧ Kp [p] w w'
theorem adv_ret (h : PAt w p txt s) (hl : txt.length ≤ 4096) : RetP Tryz.prog 41 [ptr p] w (fun v w' => v = .tuple #[] ∧ (∃ s', adv s = .ok s' ∧ PAt w' p txt s') ∧ Kp [p] w w') (OutE (adv s) p w) := by
  cases s with
  | tok t r =>
    obtain ⟨h1, h2, rfl, _⟩ := h
    refine (step_ret h1 hl h2).mono ?_ ?_
    · rintro v w' ⟨hv, hp, hk⟩
      refine ⟨hv, ⟨_, ?_, hp⟩, hk⟩
      cases hx : lex txt (t.at_ + t.text.length) with
      | bad j => rw [hx] at hp; exact hp.elim
      | stop j => rfl
      | tok u r => rfl
    · rintro v w' ⟨j, hj, hv, hk⟩
      exact ⟨300, j, by rw [hj]; rfl, hv, hk⟩
  | stop j =>
    obtain ⟨rfl, h2⟩ := h
    have hx : lex txt txt.length = .stop txt.length := by rw [lex_step (Nat.le_refl _), List.drop_length]; simp [skipB]
    refine (step_ret h2 hl (Nat.le_refl _)).mono ?_ ?_
    · rintro v w' ⟨hv, hp, hk⟩
      exact ⟨hv, ⟨_, rfl, hx ▸ hp⟩, hk⟩
    · rintro v w' ⟨j, hj, _⟩
      rw [hx] at hj; cases hj
  | bad j => exact h.elim
theorem is_hd {word : List UInt8} (hw : word ≠ []) : s.is word = (decide (s.hd.text = word) && decide (s.hd.num < 0)) := by
  cases s with
  | tok t r => rfl
  | stop j => simp [TS.is, TS.hd, Ne.symm hw]
  | bad j => simp [TS.is, TS.hd, Ne.symm hw]
theorem is_ret {word : List UInt8} (hw : word ≠ []) (h : PAt w p txt s) (hl : txt.length ≤ 4096) : RetP Tryz.prog 156 [ptr p, S word] w
    (fun v w' => Kp [p] w w' ∧ ((s.is word = true ∧ v = .bool true ∧ ∃ s', adv s = .ok s' ∧ PAt w' p txt s') ∨ (s.is word = false ∧ v = .bool false ∧ PAt w' p txt s))) (fun v w' => s.is word = true ∧ OutE (adv s) p w v w') := by
  have hB := h.pb
  rw [is_hd hw]
  refine enterP Tryz.call156 Tryz.func156 rfl rfl rfl rfl ?_
  (repeat first|refine zA ?_|refine zB ?_|refine zg ?_|refine zo rfl rfl trivial ?_|refine zn ?_|refine o_load rfl hB rfl rfl rfl rfl rfl ?_)
  refine o_split _ _ rfl rfl rfl (fun h1 => ?_) (fun h1 => ?_)
  · have h1 : ¬ s.hd.text = word := by simpa using h1
    (repeat first|refine zA ?_|refine zg ?_|refine zo rfl rfl trivial ?_|refine zn ?_|refine zr ?_|refine zt rfl ?_)
    exact ⟨_, rfl, Kp.refl _ _, .inr ⟨by simp [h1], rfl, h⟩⟩
  · have h1 : s.hd.text = word := by simpa using h1
    (repeat first|refine zo rfl rfl trivial ?_|refine zn ?_|refine o_load rfl hB rfl rfl rfl rfl rfl ?_)
    refine r_if rfl (fun h2 => ?_) (fun h2 => ?_)
    · (repeat first|refine zA ?_|refine zg ?_|refine zo rfl rfl trivial ?_|refine zn ?_|refine zr ?_)
      exact ⟨_, rfl, Kp.refl _ _, .inr ⟨by simp [h1]; omega, rfl, h⟩⟩
    · (repeat first|refine zA ?_|refine zg ?_|refine zo rfl rfl trivial ?_|refine zk ?_)
      refine o_callP (adv_ret h hl) rfl rfl rfl (fun v w' hh => ⟨by simp [h1]; omega, hh⟩) ?_
      rintro v w1 ⟨rfl, hs, hk⟩
      (repeat first|refine zA ?_|refine zg ?_|refine zo rfl rfl trivial ?_|refine zn ?_|refine zr ?_)
      exact ⟨_, rfl, hk, .inl ⟨by simp [h1]; omega, rfl, hs⟩⟩
theorem must_ret {word : List UInt8} (hw : word ≠ []) (h : PAt w p txt s) (hl : txt.length ≤ 4096) : RetP Tryz.prog 205 [ptr p, S word] w
    (fun v w' => v = .tuple #[] ∧ (∃ s', mustT s word = .ok s' ∧ PAt w' p txt s') ∧ Kp [p] w w') (OutE (mustT s word) p w) := by
  unfold mustT
  refine enterP Tryz.call205 Tryz.func205 rfl rfl rfl rfl ?_
  (repeat first|refine zA ?_|refine zg ?_|refine zo rfl rfl trivial ?_)
  refine o_callP (is_ret hw h hl) rfl rfl rfl (fun v w' hh => by rw [if_pos hh.1]; exact hh.2) ?_
  rintro v w1 ⟨hk, ⟨h1, rfl, h2⟩ | ⟨h1, rfl, h2⟩⟩
  · (repeat first|refine zo rfl rfl trivial ?_|refine zn ?_|refine zk ?_|refine zf rfl ?_)
    exact ⟨_, rfl, rfl, by rw [if_pos h1]; exact h2, hk⟩
  · (repeat first|refine zg ?_|refine zo rfl rfl trivial ?_|refine zn ?_|refine zt rfl ?_)
    refine o_callP (off_ret h2.pb (fun _ _ => False)) rfl rfl rfl (fun v w' ⟨h3, h4⟩ => ?_) (fun v w' h => h.elim)
    rw [h1, if_neg (by simp)]
    exact ⟨301, s.pos, rfl, by rw [h3]; cases s <;> rfl, h4 ▸ hk⟩
end Go.Vc
/- slices of records: where each lies, and what a store leaves. -/
namespace Go.Vc
open Go
variable {w : World} {α : Type} {f : α → List Value} {m : Nat}
theorem flC_len (hf : ∀ x, (f x).length = m) (l : List α) : (l.flatMap f).length = l.length * m := by
  induction l with
  | nil => simp
  | cons x r ih => rw [List.flatMap_cons, List.length_append, ih, hf, List.length_cons, Nat.succ_mul]; omega
theorem flC_at (hf : ∀ x, (f x).length = m) (h0 : 0 < m) : ∀ (l : List α) (k : Nat), (l.flatMap f)[k]? = (l[k / m]?).bind fun x => (f x)[k % m]?
  | [], k => by simp
  | y :: r, k => by
    rw [List.flatMap_cons]
    by_cases hk : k < m
    · rw [List.getElem?_append_left (by rw [hf]; exact hk), Nat.div_eq_of_lt hk, Nat.mod_eq_of_lt hk]; rfl
    · obtain ⟨k', rfl⟩ : ∃ k', k = k' + m := ⟨k - m, by omega⟩
      rw [List.getElem?_append_right (by rw [hf]; omega), hf, Nat.add_sub_cancel, flC_at hf h0 r k', Nat.add_div_right _ h0, Nat.add_mod_right]
      rfl
theorem flC_get (hf : ∀ x, (f x).length = m) {l : List α} {i j : Nat} {x : α} {v : Value} (hx : l[i]? = some x) (hv : (f x)[j]? = some v) : (l.flatMap f)[i * m + j]? = some v := by
  have hj : j < m := by rw [← hf x]; exact (List.getElem?_eq_some_iff.1 hv).1
  have e1 : (i * m + j) / m = i := by rw [Nat.mul_comm, Nat.mul_add_div (by omega), Nat.div_eq_of_lt hj]; omega
  have e2 : (i * m + j) % m = j := by rw [Nat.mul_comm, Nat.mul_add_mod, Nat.mod_eq_of_lt hj]
  rw [flC_at hf (by omega), e1, e2, hx]
  exact hv
theorem flC_set (hf : ∀ x, (f x).length = m) (h0 : 0 < m) {l : List α} {i : Nat} (x : α) (hi : i < l.length) (junk : List Value) : setMany (l.flatMap f ++ junk) (i * m) (f x) = (l.set i x).flatMap f ++ junk := by
  have hl := flC_len hf l
  have hl2 := flC_len hf (l.set i x)
  rw [List.length_set] at hl2
  have him : i * m + m ≤ l.length * m := by rw [← Nat.succ_mul]; exact Nat.mul_le_mul_right m hi
  apply List.ext_getElem?
  intro k
  rw [setMany_get _ _ _ _ (by rw [List.length_append, hf]; omega), hf]
  by_cases hk : i * m ≤ k ∧ k < i * m + m
  · obtain ⟨j, rfl⟩ : ∃ j, k = i * m + j := ⟨k - i * m, by omega⟩
    have hj : j < m := by omega
    have e1 : (i * m + j) / m = i := by rw [Nat.mul_comm, Nat.mul_add_div (by omega), Nat.div_eq_of_lt hj]; omega
    have e2 : (i * m + j) % m = j := by rw [Nat.mul_comm, Nat.mul_add_mod, Nat.mod_eq_of_lt hj]
    rw [if_pos hk, List.getElem?_append_left (by omega), flC_at hf h0, e1, e2, List.getElem?_set_self hi, Nat.add_sub_cancel_left]; rfl
  · rw [if_neg hk]
    by_cases hk2 : k < l.length * m
    · rw [List.getElem?_append_left (by omega), List.getElem?_append_left (by omega), flC_at hf h0, flC_at hf h0]
      have : k / m ≠ i := by
        rintro rfl
        have e := Nat.div_add_mod k m
        have h2 := Nat.mod_lt k h0
        rw [Nat.mul_comm] at e
        omega
      rw [List.getElem?_set_ne (fun e => this e.symm)]
    · rw [List.getElem?_append_right (by omega), List.getElem?_append_right (by omega), hl, hl2]
theorem OwnS.rec {T : TypeId} {ad : Option Addr} {cap : Nat} {l : List α} (h : OwnS w T m ad l.length cap (l.flatMap f)) (hf : ∀ x, (f x).length = m) (h0 : 0 < m) {i : Nat} (hi : i < l.length) :
    ∃ b L, ad = some ⟨b, 0, none⟩ ∧ Blk w b L T ∧ i * m + m ≤ L.length ∧ (∀ x, l[i]? = some x → ∀ j v, (f x)[j]? = some v → L[i * m + j]? = some v) ∧
      ∀ x w', Upd w b (.cells ⟨setMany L (i * m) (f x)⟩ T (0, 0)) w' → OwnS w' T m ad l.length cap ((l.set i x).flatMap f) := by
  have hl := flC_len hf l
  have him : i * m + m ≤ l.length * m := by rw [← Nat.succ_mul]; exact Nat.mul_le_mul_right m hi
  cases ad with
  | none => obtain ⟨h1, _⟩ := h.2; omega
  | some ad =>
    obtain ⟨b, off, spot⟩ := ad
    obtain ⟨h1, h2, h3, h4, junk, h5, h6⟩ := h.2
    dsimp only at h1 h2 h5
    subst h1 h2
    refine ⟨b, l.flatMap f ++ junk, rfl, h5, by rw [List.length_append]; omega, fun x hx j v hv => ?_, fun x w' hu => ?_⟩
    · have := flC_get hf hx hv
      rw [List.getElem?_append_left (List.getElem?_eq_some_iff.1 this).1]; exact this
    · have hl2 := flC_len hf (l.set i x)
      rw [List.length_set] at hl2
      refine ⟨hl2, rfl, rfl, h3, h4, junk, ?_, ?_⟩
      · have := hu.blk
        rw [flC_set hf h0 x hi] at this
        exact this
      · rw [List.length_append] at h6 ⊢; omega
/-- one cell of a record is stored -/
theorem set_many_cell (L : List Value) {o j : Nat} {cs : List Value} {v : Value} (hL : ∀ j' v', cs[j']? = some v' → L[o + j']? = some v') (hlen : o + cs.length ≤ L.length) (hj : j < cs.length) : setMany L o (cs.set j v) = L.set (o + j) v := by
  apply List.ext_getElem?
  intro k
  rw [setMany_get _ _ _ _ (by simpa using hlen), List.length_set]
  by_cases hk : o ≤ k ∧ k < o + cs.length
  · rw [if_pos hk]
    obtain ⟨r, rfl⟩ : ∃ r, k = o + r := ⟨k - o, by omega⟩
    rw [Nat.add_sub_cancel_left]
    by_cases hr : j = r
    · subst hr
      rw [List.getElem?_set_self hj, List.getElem?_set_self (by omega)]
    · have hr2 : r < cs.length := by omega
      rw [List.getElem?_set_ne hr, List.getElem?_set_ne (by omega), List.getElem?_eq_getElem hr2, hL r _ (List.getElem?_eq_getElem hr2)]
  · rw [if_neg hk, List.getElem?_set_ne (by omega)]
theorem OwnS.readN {T : TypeId} {size : Nat} {ad : Option Addr} {n cap : Nat} {xs : List Value} (h : OwnS w T size ad n cap xs) : ReadS w ad xs := by
  cases ad with
  | none =>
    obtain ⟨h0, h1⟩ := h
    obtain ⟨h2, _⟩ := h1
    subst h2
    exact List.eq_nil_of_length_eq_zero (by omega)
  | some ad =>
    obtain ⟨b, off, spot⟩ := ad
    obtain ⟨_, h1, h2, _, _, junk, h5, _⟩ := h
    dsimp only at h1 h2 h5
    subst h1 h2
    refine ReadS.mk fun i v hv => ?_
    rw [Nat.zero_add]
    exact h5.cell (by rw [List.getElem?_append_left (List.getElem?_eq_some_iff.1 hv).1]; exact hv)
def upB (f : Nat → Bool) (k : Nat) (b : Bool) (i : Nat) : Bool := if i = k then b else f i
def bl (f : Nat → Bool) (n : Nat) : List Value := (List.range n).map fun i => .bool (f i)
open Classical in
noncomputable def propB (p : Prop) : Bool := decide p
open Classical in
theorem propB_iff {p : Prop} : propB p = true ↔ p := @decide_eq_true_iff _ _
end Go.Vc
/- Query: the words: shapes, operation. -/
namespace Go.Vc
open Go Go.Proofs
set_option maxRecDepth 10000
variable {w : World}
/-- the cells of an operation's shape -/
def shO (k : Nat) : List Value := [S (opWord k), I (kidsO k), I (ofO k), I (answerO k), .bool (bindsO k), .bool (callO k)]
theorem shO_len (k : Nat) : (shO k).length = 6 := rfl
set_option maxHeartbeats 3200000 in
theorem shapes_ret : Ret Tryz.prog 119 [] w (fun v w' => v = .slice (some ⟨w.heap.size, 0, none⟩) 27 27 ∧ ReadS w' (some ⟨w.heap.size, 0, none⟩) ((List.range 27).flatMap shO) ∧ Kp [] w w') := by
  refine enter Tryz.call119 Tryz.func119 rfl rfl rfl rfl ?_
  (repeat first|refine zA ?_|refine zg ?_|refine zo rfl rfl trivial ?_|refine zn ?_)
  refine o_build (shO 0) rfl rfl rfl rfl rfl rfl rfl ?_
  refine o_build (shO 1) rfl rfl rfl rfl rfl rfl rfl ?_
  refine o_build (shO 2) rfl rfl rfl rfl rfl rfl rfl ?_
  refine o_build (shO 3) rfl rfl rfl rfl rfl rfl rfl ?_
  refine o_build (shO 4) rfl rfl rfl rfl rfl rfl rfl ?_
  refine o_build (shO 5) rfl rfl rfl rfl rfl rfl rfl ?_
  refine o_build (shO 6) rfl rfl rfl rfl rfl rfl rfl ?_
  refine o_build (shO 7) rfl rfl rfl rfl rfl rfl rfl ?_
  refine o_build (shO 8) rfl rfl rfl rfl rfl rfl rfl ?_
  refine o_build (shO 9) rfl rfl rfl rfl rfl rfl rfl ?_
  refine o_build (shO 10) rfl rfl rfl rfl rfl rfl rfl ?_
  refine o_build (shO 11) rfl rfl rfl rfl rfl rfl rfl ?_
  refine o_build (shO 12) rfl rfl rfl rfl rfl rfl rfl ?_
  refine o_build (shO 13) rfl rfl rfl rfl rfl rfl rfl ?_
  refine o_build (shO 14) rfl rfl rfl rfl rfl rfl rfl ?_
  refine o_build (shO 15) rfl rfl rfl rfl rfl rfl rfl ?_
  refine o_build (shO 16) rfl rfl rfl rfl rfl rfl rfl ?_
  refine o_build (shO 17) rfl rfl rfl rfl rfl rfl rfl ?_
  refine o_build (shO 18) rfl rfl rfl rfl rfl rfl rfl ?_
  refine o_build (shO 19) rfl rfl rfl rfl rfl rfl rfl ?_
  refine o_build (shO 20) rfl rfl rfl rfl rfl rfl rfl ?_
  refine o_build (shO 21) rfl rfl rfl rfl rfl rfl rfl ?_
  refine o_build (shO 22) rfl rfl rfl rfl rfl rfl rfl ?_
  refine o_build (shO 23) rfl rfl rfl rfl rfl rfl rfl ?_
  refine o_build (shO 24) rfl rfl rfl rfl rfl rfl rfl ?_
  refine o_build (shO 25) rfl rfl rfl rfl rfl rfl rfl ?_
  refine o_build (shO 26) rfl rfl rfl rfl rfl rfl rfl ?_
  refine o_buildSliceN ((List.range 27).flatMap shO) rfl rfl rfl (by kernel_rfl) rfl rfl rfl rfl ?_
  intro b w1 hb hu
  subst hb
  (repeat first|refine zo rfl rfl trivial ?_|refine zn ?_|refine zr ?_)
  refine ⟨_, rfl, rfl, fun i v hv => ?_, hu.kp [] (.inr (Nat.le_refl _))⟩
  rw [addr_lit, Nat.zero_add]
  exact hu.blk.cell hv
theorem opBox_ret (s : List UInt8) (k : Nat) {b : Nat} (hb : Blk w b [S s] 9) : Ret Tryz.prog 140 [.agg ⟨shO k⟩, ptr b] w (fun v w' => v = .bool (opT s k) ∧ Kp [] w w') := by
  unfold opT
  refine enter Tryz.call140 Tryz.func140 rfl rfl rfl rfl ?_
  refine r_seq ?_
  (repeat refine zg ?_)
  refine o_box rfl rfl rfl ?_
  intro b2 w1 hb2 hu
  have k1 : Kp [] w w1 := hu.kp [] (.inr (by omega))
  have hB : Blk w1 b [S s] 9 := k1.blk (by simp) hb
  have h2 : Blk w1 b2 (shO k) 118 := hu.blk
  (repeat first|refine zA ?_|refine zg ?_|refine zo rfl rfl trivial ?_|refine zn ?_)
  refine o_load (v := S (opWord k)) rfl h2 rfl rfl rfl rfl rfl ?_
  refine o_load rfl hB rfl rfl rfl rfl rfl ?_
  (repeat refine zo rfl rfl trivial ?_)
  refine o_split _ _ rfl rfl rfl (fun h => ?_) (fun h => ?_)
  · skip
    refine o_load rfl hB rfl rfl rfl rfl rfl ?_
    (repeat first|refine zo rfl rfl trivial ?_|refine zn ?_|refine zr ?_)
    exact ⟨_, rfl, by rw [h]; rfl, k1⟩
  · (repeat first|refine zo rfl rfl trivial ?_|refine zn ?_|refine zr ?_)
    exact ⟨_, rfl, by rw [h]; rfl, k1⟩
theorem find_some {f : Nat → Bool} {n i : Nat} (hi : i < n) (h : f i = true) (hl : ∀ j, j < i → f j = false) : (List.range n).find? f = some i := by
  rw [List.find?_range_eq_some]
  exact ⟨h, List.mem_range.2 hi, fun j hj => by rw [hl j hj]; rfl⟩
theorem find_none {f : Nat → Bool} {n : Nat} (hl : ∀ j, j < n → f j = false) : (List.range n).find? f = none := by
  rw [List.find?_range_eq_none]
  exact fun j hj => by rw [hl j hj]; rfl
def ixV : Option Nat → Value
  | some k => I k
  | none => I (-1)
theorem IndexShape_ret (s : List UInt8) {b a : Nat} (hb : Blk w b [S s] 9) (hr : ReadS w (some ⟨a, 0, none⟩) ((List.range 27).flatMap shO)) : Ret Tryz.prog 139 [.slice (some ⟨a, 0, none⟩) 27 27, .func (.func 140) #[] #[ptr b]] w
    (fun v w' => v = ixV ((List.range 27).find? (opT s)) ∧ Kp [] w w') := by
  refine enter Tryz.call139 Tryz.func139 rfl rfl rfl rfl ?_
  (repeat first|refine zA ?_|refine zB ?_|refine zg ?_|refine zo rfl rfl trivial ?_|refine zn ?_|refine zb ?_)
  refine r_loop (α := Nat) [0, 1, 7, 8] (fun i => [.slice (some ⟨a, 0, none⟩) 27 27, .func (.func 140) #[] #[ptr b], I 27, I i]) (fun i W => i ≤ 27 ∧ Kp [] w W ∧ ∀ j, j < i → opT s j = false) (fun i => 27 - i) 0 rfl ⟨Nat.zero_le _, Kp.refl _ _, by omega⟩ ?_
  rintro i e W ⟨hi, kW, hj⟩
  (repeat first|refine zA ?_|refine zD ?_|refine zg ?_|refine zo rfl rfl trivial ?_|refine zn ?_)
  refine r_if rfl (fun hc => ?_) (fun hc => ?_)
  · have hi2 : i < 27 := by omega
    have hrW := hr.kp kW (by simp)
    (repeat first|refine zA ?_|refine zC ?_|refine zg ?_|refine zo rfl rfl (by first|exact trivial|(simp only[AllP];omega)) ?_|refine zn ?_|refine zb ?_|refine zk ?_)
    refine o_loadA (b := a) (off := 0 + i * 6) (vs := shO i) rfl (fun j v hv => by
      have h := hrW (i * 6 + j) v (flC_get (f := shO) (m := 6) shO_len (List.getElem?_range hi2) hv)
      rw [← h, addr_lit, show 0 + i * 6 + j = 0 + (i * 6 + j) by omega]) rfl rfl rfl rfl rfl rfl ?_
    refine o_callv (first := #[]) (cap := #[ptr b]) (opBox_ret s i (kW.blk (by simp) hb)) rfl rfl rfl rfl ?_
    rintro v w2 ⟨rfl, k2⟩
    (repeat refine zn ?_)
    refine r_cond rfl (fun h => ?_) (fun h => ?_)
    · (repeat first|refine zA ?_|refine zg ?_|refine zo rfl rfl trivial ?_|refine zn ?_|refine zr ?_)
      exact ⟨_, rfl, by rw [find_some hi2 h hj]; rfl, kW.trans k2⟩
    · (repeat first|refine zg ?_|refine zo rfl rfl (by first|exact trivial|(simp only[AllP];omega)) ?_|refine zn ?_|refine zk ?_)
      exact ⟨i + 1, rfl, ⟨by omega, kW.trans k2, fun j hj2 => by
        by_cases c : j = i
        · subst c; exact h
        · exact hj j (by omega)⟩, by omega⟩
  · have : i = 27 := by omega
    subst this
    (repeat first|refine zA ?_|refine zg ?_|refine zo rfl rfl trivial ?_|refine zn ?_|refine ze rfl ?_|refine zr ?_)
    exact ⟨_, rfl, by rw [find_none hj]; rfl, kW⟩
theorem operation_ret (s : List UInt8) : Ret Tryz.prog 104 [S s] w (fun v w' => v = I (opOf s) ∧ Kp [] w w') := by
  refine enter Tryz.call104 Tryz.func104 rfl rfl rfl rfl ?_
  (repeat first|refine zA ?_|refine zg ?_)
  refine o_box rfl rfl rfl ?_
  intro b w1 hb hu
  have k1 : Kp [] w w1 := hu.kp [] (.inr (by omega))
  (repeat first|refine zA ?_|refine zg ?_|refine zo rfl rfl trivial ?_|refine zn ?_)
  refine o_call shapes_ret rfl rfl rfl ?_
  rintro v w2 ⟨rfl, hr, k2⟩
  (repeat refine zo rfl rfl trivial ?_)
  refine o_call (IndexShape_ret s (k2.blk (by simp) hu.blk) hr) rfl rfl rfl ?_
  rintro v w3 ⟨rfl, k3⟩
  unfold opOf
  cases (List.range 27).find? (opT s) with
  | none =>
    unfold ixV
    (repeat first|refine zo rfl rfl trivial ?_|refine zn ?_|refine zr ?_)
    exact ⟨_, rfl, rfl, (k1.trans k2).trans k3⟩
  | some k =>
    unfold ixV
    (repeat first|refine zo rfl rfl trivial ?_|refine zn ?_|refine zr ?_)
    exact ⟨_, rfl, by show I (max 0 (k : Int)) = I k; rw [Int.max_eq_right (by omega)], (k1.trans k2).trans k3⟩
end Go.Vc
