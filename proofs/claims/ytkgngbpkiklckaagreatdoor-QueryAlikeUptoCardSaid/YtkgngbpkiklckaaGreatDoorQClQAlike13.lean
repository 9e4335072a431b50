/- slices of records: where each lies, and what a store leaves. -/
import Derived.Test.YtkgngbpkiklckaaGreatDoorQClQAlike9
import Derived.Test.YtkgngbpkiklckaaGreatDoorQClQAlike12
import Derived.Shelf.Strings.Fields
import Derived.Shelf.Strings.BuilderK
import Derived.Shelf.Strconv.Itoa3
import Derived.Test.YtkgngbpkiklckaaGreatDoorProg
import Derived.ArgAppend
namespace Go.Vc
open Go
variable {w : World} {α : Type} {f : α → List Value} {m : Nat}
theorem flC_len (hf : ∀ x, (f x).length = m) (l : List α) : (l.flatMap f).length = l.length * m := by
  induction l with
  | nil => simp
  | cons x r ih => rw [List.flatMap_cons, List.length_append, ih, hf, List.length_cons, Nat.succ_mul]; omega
theorem flC_at (hf : ∀ x, (f x).length = m) (h0 : 0 < m) : ∀ (l : List α) (k : Nat), (l.flatMap f)[k]? = (l[k / m]?).bind fun x => (f x)[k % m]?
  | [], k => by simp
  | y :: r, k => by
    rw [List.flatMap_cons]
    by_cases hk : k < m
    · rw [List.getElem?_append_left (by rw [hf]; exact hk), Nat.div_eq_of_lt hk, Nat.mod_eq_of_lt hk]; rfl
    · obtain ⟨k', rfl⟩ : ∃ k', k = k' + m := ⟨k - m, by omega⟩
      rw [List.getElem?_append_right (by rw [hf]; omega), hf, Nat.add_sub_cancel, flC_at hf h0 r k', Nat.add_div_right _ h0, Nat.add_mod_right]
      rfl
theorem flC_get (hf : ∀ x, (f x).length = m) {l : List α} {i j : Nat} {x : α} {v : Value} (hx : l[i]? = some x) (hv : (f x)[j]? = some v) : (l.flatMap f)[i * m + j]? = some v := by
  have hj : j < m := by rw [← hf x]; exact (List.getElem?_eq_some_iff.1 hv).1
  have e1 : (i * m + j) / m = i := by rw [Nat.mul_comm, Nat.mul_add_div (by omega), Nat.div_eq_of_lt hj]; omega
  have e2 : (i * m + j) % m = j := by rw [Nat.mul_comm, Nat.mul_add_mod, Nat.mod_eq_of_lt hj]
  rw [flC_at hf (by omega), e1, e2, hx]
  exact hv
theorem flC_set (hf : ∀ x, (f x).length = m) (h0 : 0 < m) {l : List α} {i : Nat} (x : α) (hi : i < l.length) (junk : List Value) : setMany (l.flatMap f ++ junk) (i * m) (f x) = (l.set i x).flatMap f ++ junk := by
  have hl := flC_len hf l
  have hl2 := flC_len hf (l.set i x)
  rw [List.length_set] at hl2
  have him : i * m + m ≤ l.length * m := by rw [← Nat.succ_mul]; exact Nat.mul_le_mul_right m hi
  apply List.ext_getElem?
  intro k
  rw [setMany_get _ _ _ _ (by rw [List.length_append, hf]; omega), hf]
  by_cases hk : i * m ≤ k ∧ k < i * m + m
  · obtain ⟨j, rfl⟩ : ∃ j, k = i * m + j := ⟨k - i * m, by omega⟩
    have hj : j < m := by omega
    have e1 : (i * m + j) / m = i := by rw [Nat.mul_comm, Nat.mul_add_div (by omega), Nat.div_eq_of_lt hj]; omega
    have e2 : (i * m + j) % m = j := by rw [Nat.mul_comm, Nat.mul_add_mod, Nat.mod_eq_of_lt hj]
    rw [if_pos hk, List.getElem?_append_left (by omega), flC_at hf h0, e1, e2, List.getElem?_set_self hi, Nat.add_sub_cancel_left]; rfl
  · rw [if_neg hk]
    by_cases hk2 : k < l.length * m
    · rw [List.getElem?_append_left (by omega), List.getElem?_append_left (by omega), flC_at hf h0, flC_at hf h0]
      have : k / m ≠ i := by
        rintro rfl
        have e := Nat.div_add_mod k m
        have h2 := Nat.mod_lt k h0
        rw [Nat.mul_comm] at e
        omega
      rw [List.getElem?_set_ne (fun e => this e.symm)]
    · rw [List.getElem?_append_right (by omega), List.getElem?_append_right (by omega), hl, hl2]
theorem OwnS.rec {T : TypeId} {ad : Option Addr} {cap : Nat} {l : List α} (h : OwnS w T m ad l.length cap (l.flatMap f)) (hf : ∀ x, (f x).length = m) (h0 : 0 < m) {i : Nat} (hi : i < l.length) :
    ∃ b L, ad = some ⟨b, 0, none⟩ ∧ Blk w b L T ∧ i * m + m ≤ L.length ∧ (∀ x, l[i]? = some x → ∀ j v, (f x)[j]? = some v → L[i * m + j]? = some v) ∧
      ∀ x w', Upd w b (.cells ⟨setMany L (i * m) (f x)⟩ T (0, 0)) w' → OwnS w' T m ad l.length cap ((l.set i x).flatMap f) := by
  have hl := flC_len hf l
  have him : i * m + m ≤ l.length * m := by rw [← Nat.succ_mul]; exact Nat.mul_le_mul_right m hi
  cases ad with
  | none => obtain ⟨h1, _⟩ := h.2; omega
  | some ad =>
    obtain ⟨b, off, spot⟩ := ad
    obtain ⟨h1, h2, h3, h4, junk, h5, h6⟩ := h.2
    dsimp only at h1 h2 h5
    subst h1 h2
    refine ⟨b, l.flatMap f ++ junk, rfl, h5, by rw [List.length_append]; omega, fun x hx j v hv => ?_, fun x w' hu => ?_⟩
    · have := flC_get hf hx hv
      rw [List.getElem?_append_left (List.getElem?_eq_some_iff.1 this).1]; exact this
    · have hl2 := flC_len hf (l.set i x)
      rw [List.length_set] at hl2
      refine ⟨hl2, rfl, rfl, h3, h4, junk, ?_, ?_⟩
      · have := hu.blk
        rw [flC_set hf h0 x hi] at this
        exact this
      · rw [List.length_append] at h6 ⊢; omega
/-- one cell of a record is stored -/
theorem set_many_cell (L : List Value) {o j : Nat} {cs : List Value} {v : Value} (hL : ∀ j' v', cs[j']? = some v' → L[o + j']? = some v') (hlen : o + cs.length ≤ L.length) (hj : j < cs.length) : setMany L o (cs.set j v) = L.set (o + j) v := by
  apply List.ext_getElem?
  intro k
  rw [setMany_get _ _ _ _ (by simpa using hlen), List.length_set]
  by_cases hk : o ≤ k ∧ k < o + cs.length
  · rw [if_pos hk]
    obtain ⟨r, rfl⟩ : ∃ r, k = o + r := ⟨k - o, by omega⟩
    rw [Nat.add_sub_cancel_left]
    by_cases hr : j = r
    · subst hr
      rw [List.getElem?_set_self hj, List.getElem?_set_self (by omega)]
    · have hr2 : r < cs.length := by omega
      rw [List.getElem?_set_ne hr, List.getElem?_set_ne (by omega), List.getElem?_eq_getElem hr2, hL r _ (List.getElem?_eq_getElem hr2)]
  · rw [if_neg hk, List.getElem?_set_ne (by omega)]
theorem OwnS.readN {T : TypeId} {size : Nat} {ad : Option Addr} {n cap : Nat} {xs : List Value} (h : OwnS w T size ad n cap xs) : ReadS w ad xs := by
  cases ad with
  | none =>
    obtain ⟨h0, h1⟩ := h
    obtain ⟨h2, _⟩ := h1
    subst h2
    exact List.eq_nil_of_length_eq_zero (by omega)
  | some ad =>
    obtain ⟨b, off, spot⟩ := ad
    obtain ⟨_, h1, h2, _, _, junk, h5, _⟩ := h
    dsimp only at h1 h2 h5
    subst h1 h2
    refine ReadS.mk fun i v hv => ?_
    rw [Nat.zero_add]
    exact h5.cell (by rw [List.getElem?_append_left (List.getElem?_eq_some_iff.1 hv).1]; exact hv)
def upB (f : Nat → Bool) (k : Nat) (b : Bool) (i : Nat) : Bool := if i = k then b else f i
def bl (f : Nat → Bool) (n : Nat) : List Value := (List.range n).map fun i => .bool (f i)
open Classical in
noncomputable def propB (p : Prop) : Bool := decide p
open Classical in
theorem propB_iff {p : Prop} : propB p = true ↔ p := @decide_eq_true_iff _ _
end Go.Vc
/- Query: the words: shapes, operation. -/
namespace Go.Vc
open Go Go.Proofs
set_option maxRecDepth 10000
variable {w : World}
/-- the cells of an operation's shape -/
def shO (k : Nat) : List Value := [S (opWord k), I (kidsO k), I (ofO k), I (answerO k), .bool (bindsO k), .bool (callO k)]
theorem shO_len (k : Nat) : (shO k).length = 6 := rfl
set_option maxHeartbeats 3200000 in
theorem shapes_ret : Ret Tryz.prog 119 [] w (fun v w' => v = .slice (some ⟨w.heap.size, 0, none⟩) 27 27 ∧ ReadS w' (some ⟨w.heap.size, 0, none⟩) ((List.range 27).flatMap shO) ∧ Kp [] w w') := by
  refine enter Tryz.call119 Tryz.func119 rfl rfl rfl rfl ?_
  (repeat first|refine zA ?_|refine zg ?_|refine zo rfl rfl trivial ?_|refine zn ?_)
  refine o_build (shO 0) rfl rfl rfl rfl rfl rfl rfl ?_
  refine o_build (shO 1) rfl rfl rfl rfl rfl rfl rfl ?_
  refine o_build (shO 2) rfl rfl rfl rfl rfl rfl rfl ?_
  refine o_build (shO 3) rfl rfl rfl rfl rfl rfl rfl ?_
  refine o_build (shO 4) rfl rfl rfl rfl rfl rfl rfl ?_
  refine o_build (shO 5) rfl rfl rfl rfl rfl rfl rfl ?_
  refine o_build (shO 6) rfl rfl rfl rfl rfl rfl rfl ?_
  refine o_build (shO 7) rfl rfl rfl rfl rfl rfl rfl ?_
  refine o_build (shO 8) rfl rfl rfl rfl rfl rfl rfl ?_
  refine o_build (shO 9) rfl rfl rfl rfl rfl rfl rfl ?_
  refine o_build (shO 10) rfl rfl rfl rfl rfl rfl rfl ?_
  refine o_build (shO 11) rfl rfl rfl rfl rfl rfl rfl ?_
  refine o_build (shO 12) rfl rfl rfl rfl rfl rfl rfl ?_
  refine o_build (shO 13) rfl rfl rfl rfl rfl rfl rfl ?_
  refine o_build (shO 14) rfl rfl rfl rfl rfl rfl rfl ?_
  refine o_build (shO 15) rfl rfl rfl rfl rfl rfl rfl ?_
  refine o_build (shO 16) rfl rfl rfl rfl rfl rfl rfl ?_
  refine o_build (shO 17) rfl rfl rfl rfl rfl rfl rfl ?_
  refine o_build (shO 18) rfl rfl rfl rfl rfl rfl rfl ?_
  refine o_build (shO 19) rfl rfl rfl rfl rfl rfl rfl ?_
  refine o_build (shO 20) rfl rfl rfl rfl rfl rfl rfl ?_
  refine o_build (shO 21) rfl rfl rfl rfl rfl rfl rfl ?_
  refine o_build (shO 22) rfl rfl rfl rfl rfl rfl rfl ?_
  refine o_build (shO 23) rfl rfl rfl rfl rfl rfl rfl ?_
  refine o_build (shO 24) rfl rfl rfl rfl rfl rfl rfl ?_
  refine o_build (shO 25) rfl rfl rfl rfl rfl rfl rfl ?_
  refine o_build (shO 26) rfl rfl rfl rfl rfl rfl rfl ?_
  refine o_buildSliceN ((List.range 27).flatMap shO) rfl rfl rfl (by kernel_rfl) rfl rfl rfl rfl ?_
  intro b w1 hb hu
  subst hb
  (repeat first|refine zo rfl rfl trivial ?_|refine zn ?_|refine zr ?_)
  refine ⟨_, rfl, rfl, fun i v hv => ?_, hu.kp [] (.inr (Nat.le_refl _))⟩
  rw [addr_lit, Nat.zero_add]
  exact hu.blk.cell hv
theorem opBox_ret (s : List UInt8) (k : Nat) {b : Nat} (hb : Blk w b [S s] 9) : Ret Tryz.prog 140 [.agg ⟨shO k⟩, ptr b] w (fun v w' => v = .bool (opT s k) ∧ Kp [] w w') := by
  unfold opT
  refine enter Tryz.call140 Tryz.func140 rfl rfl rfl rfl ?_
  refine r_seq ?_
  (repeat refine zg ?_)
  refine o_box rfl rfl rfl ?_
  intro b2 w1 hb2 hu
  have k1 : Kp [] w w1 := hu.kp [] (.inr (by omega))
  have hB : Blk w1 b [S s] 9 := k1.blk (by simp) hb
  have h2 : Blk w1 b2 (shO k) 118 := hu.blk
  (repeat first|refine zA ?_|refine zg ?_|refine zo rfl rfl trivial ?_|refine zn ?_)
  refine o_load (v := S (opWord k)) rfl h2 rfl rfl rfl rfl rfl ?_
  refine o_load rfl hB rfl rfl rfl rfl rfl ?_
  (repeat refine zo rfl rfl trivial ?_)
  refine o_split _ _ rfl rfl rfl (fun h => ?_) (fun h => ?_)
  · skip
    refine o_load rfl hB rfl rfl rfl rfl rfl ?_
    (repeat first|refine zo rfl rfl trivial ?_|refine zn ?_|refine zr ?_)
    exact ⟨_, rfl, by rw [h]; rfl, k1⟩
  · (repeat first|refine zo rfl rfl trivial ?_|refine zn ?_|refine zr ?_)
    exact ⟨_, rfl, by rw [h]; rfl, k1⟩
theorem find_some {f : Nat → Bool} {n i : Nat} (hi : i < n) (h : f i = true) (hl : ∀ j, j < i → f j = false) : (List.range n).find? f = some i := by
  rw [List.find?_range_eq_some]
  exact ⟨h, List.mem_range.2 hi, fun j hj => by rw [hl j hj]; rfl⟩
theorem find_none {f : Nat → Bool} {n : Nat} (hl : ∀ j, j < n → f j = false) : (List.range n).find? f = none := by
  rw [List.find?_range_eq_none]
  exact fun j hj => by rw [hl j hj]; rfl
def ixV : Option Nat → Value
  | some k => I k
  | none => I (-1)
theorem IndexShape_ret (s : List UInt8) {b a : Nat} (hb : Blk w b [S s] 9) (hr : ReadS w (some ⟨a, 0, none⟩) ((List.range 27).flatMap shO)) : Ret Tryz.prog 139 [.slice (some ⟨a, 0, none⟩) 27 27, .func (.func 140) #[] #[ptr b]] w
    (fun v w' => v = ixV ((List.range 27).find? (opT s)) ∧ Kp [] w w') := by
  refine enter Tryz.call139 Tryz.func139 rfl rfl rfl rfl ?_
  (repeat first|refine zA ?_|refine zB ?_|refine zg ?_|refine zo rfl rfl trivial ?_|refine zn ?_|refine zb ?_)
  refine r_loop (α := Nat) [0, 1, 7, 8] (fun i => [.slice (some ⟨a, 0, none⟩) 27 27, .func (.func 140) #[] #[ptr b], I 27, I i]) (fun i W => i ≤ 27 ∧ Kp [] w W ∧ ∀ j, j < i → opT s j = false) (fun i => 27 - i) 0 rfl ⟨Nat.zero_le _, Kp.refl _ _, by omega⟩ ?_
  rintro i e W ⟨hi, kW, hj⟩
  (repeat first|refine zA ?_|refine zD ?_|refine zg ?_|refine zo rfl rfl trivial ?_|refine zn ?_)
  refine r_if rfl (fun hc => ?_) (fun hc => ?_)
  · have hi2 : i < 27 := by omega
    have hrW := hr.kp kW (by simp)
    (repeat first|refine zA ?_|refine zC ?_|refine zg ?_|refine zo rfl rfl (by first|exact trivial|(simp only[AllP];omega)) ?_|refine zn ?_|refine zb ?_|refine zk ?_)
    refine o_loadA (b := a) (off := 0 + i * 6) (vs := shO i) rfl (fun j v hv => by
      have h := hrW (i * 6 + j) v (flC_get (f := shO) (m := 6) shO_len (List.getElem?_range hi2) hv)
      rw [← h, addr_lit, show 0 + i * 6 + j = 0 + (i * 6 + j) by omega]) rfl rfl rfl rfl rfl rfl ?_
    refine o_callv (first := #[]) (cap := #[ptr b]) (opBox_ret s i (kW.blk (by simp) hb)) rfl rfl rfl rfl ?_
    rintro v w2 ⟨rfl, k2⟩
    (repeat refine zn ?_)
    refine r_cond rfl (fun h => ?_) (fun h => ?_)
    · (repeat first|refine zA ?_|refine zg ?_|refine zo rfl rfl trivial ?_|refine zn ?_|refine zr ?_)
      exact ⟨_, rfl, by rw [find_some hi2 h hj]; rfl, kW.trans k2⟩
    · (repeat first|refine zg ?_|refine zo rfl rfl (by first|exact trivial|(simp only[AllP];omega)) ?_|refine zn ?_|refine zk ?_)
      exact ⟨i + 1, rfl, ⟨by omega, kW.trans k2, fun j hj2 => by
        by_cases c : j = i
        · subst c; exact h
        · exact hj j (by omega)⟩, by omega⟩
  · have : i = 27 := by omega
    subst this
    (repeat first|refine zA ?_|refine zg ?_|refine zo rfl rfl trivial ?_|refine zn ?_|refine ze rfl ?_|refine zr ?_)
    exact ⟨_, rfl, by rw [find_none hj]; rfl, kW⟩
theorem operation_ret (s : List UInt8) : Ret Tryz.prog 104 [S s] w (fun v w' => v = I (opOf s) ∧ Kp [] w w') := by
  refine enter Tryz.call104 Tryz.func104 rfl rfl rfl rfl ?_
  (repeat first|refine zA ?_|refine zg ?_)
  refine o_box rfl rfl rfl ?_
  intro b w1 hb hu
  have k1 : Kp [] w w1 := hu.kp [] (.inr (by omega))
  (repeat first|refine zA ?_|refine zg ?_|refine zo rfl rfl trivial ?_|refine zn ?_)
  refine o_call shapes_ret rfl rfl rfl ?_
  rintro v w2 ⟨rfl, hr, k2⟩
  (repeat refine zo rfl rfl trivial ?_)
  refine o_call (IndexShape_ret s (k2.blk (by simp) hu.blk) hr) rfl rfl rfl ?_
  rintro v w3 ⟨rfl, k3⟩
  unfold opOf
  cases (List.range 27).find? (opT s) with
  | none =>
    unfold ixV
    (repeat first|refine zo rfl rfl trivial ?_|refine zn ?_|refine zr ?_)
    exact ⟨_, rfl, rfl, (k1.trans k2).trans k3⟩
  | some k =>
    unfold ixV
    (repeat first|refine zo rfl rfl trivial ?_|refine zn ?_|refine zr ?_)
    exact ⟨_, rfl, by show I (max 0 (k : Int)) = I k; rw [Int.max_eq_right (by omega)], (k1.trans k2).trans k3⟩
end Go.Vc
/- the shelf at this program, in plain words (printed by tool/lay.py: shelf_lay Lays.n157 Nm 157 at Tryz as Tryz.layFields; shelf_lay Lays.n167 Nm 167 at Tryz as Tryz.layWB; shelf_lay Lays.n166 Nm 166 at Tryz as Tryz.layWS; shelf_lay Lays.n169 Nm 169 at Tryz as Tryz.layBS; shelf_lay Lays.n170 Nm 170 at Tryz as Tryz.layBL; shelf_lay LaysM.n171 Nm 171 at Tryz as Tryz.layItoa) -/
namespace Go.Proofs
open Go.Shelf
def Tryz.layFields_ren : Go.Shelf.Ren := ⟨fun | 157 => 142 | 229 => 175 | 199 => 176 | 261 => 190 | 311 => 200 | 312 => 201 | n => n, fun | 9 => 9 | 31 => 159 | 3 => 3 | 5 => 5 | 4 => 4 | 119 => 264 | 0 => 0 | 40 => 266 | 152 => 275 | 21 => 21 | 154 => 277 | 51 => 278 | 141 => 280 | 196 => 289 | 193 => 286 | 198 => 292 | 49 => 290 | 194 => 287 | 201 => 295 | 226 => 300 | 46 => 283 | 227 => 301 | 20 => 20 | n => n, fun | 0 => 0 | 6 => 1 | n => n⟩
theorem Tryz.layFields : Go.Proofs.Lays.n157 Tryz.prog Tryz.layFields_ren := {
  mixed := by kernel_rfl
  f157 := Tryz.func142.trans (congrArg some (by kernel_rfl))
  f199 := Tryz.func176.trans (congrArg some (by kernel_rfl))
  f229 := Tryz.func175.trans (congrArg some (by kernel_rfl))
  f261 := Tryz.func190.trans (congrArg some (by kernel_rfl))
  f311 := Tryz.func200.trans (congrArg some (by kernel_rfl))
  f312 := Tryz.func201.trans (congrArg some (by kernel_rfl))
  t0 := Tryz.underlying0
  a0 := Tryz.isAgg0
  z0 := Tryz.sizeOf0
  v0 := Tryz.zeroValue0
  t3 := Tryz.underlying3
  a3 := Tryz.isAgg3
  z3 := Tryz.sizeOf3
  v3 := Tryz.zeroValue3
  t4 := Tryz.underlying4
  a4 := Tryz.isAgg4
  z4 := Tryz.sizeOf4
  v4 := Tryz.zeroValue4
  t5 := Tryz.underlying5
  a5 := Tryz.isAgg5
  z5 := Tryz.sizeOf5
  v5 := Tryz.zeroValue5
  t9 := Tryz.underlying9
  a9 := Tryz.isAgg9
  z9 := Tryz.sizeOf9
  v9 := Tryz.zeroValue9
  t21 := Tryz.underlying21
  a21 := Tryz.isAgg21
  z21 := Tryz.sizeOf21
  v21 := Tryz.zeroValue21
  t31 := Tryz.underlying159
  a31 := Tryz.isAgg159
  z31 := Tryz.sizeOf159
  v31 := Tryz.zeroValue159
  t40 := Tryz.underlying266
  a40 := Tryz.isAgg266
  z40 := Tryz.sizeOf266
  v40 := Tryz.zeroValue266
  t46 := Tryz.underlying283
  a46 := Tryz.isAgg283
  z46 := Tryz.sizeOf283
  v46 := Tryz.zeroValue283
  t49 := Tryz.underlying290
  a49 := Tryz.isAgg290
  z49 := Tryz.sizeOf290
  v49 := Tryz.zeroValue290
  t51 := Tryz.underlying278
  a51 := Tryz.isAgg278
  z51 := Tryz.sizeOf278
  v51 := Tryz.zeroValue278
  t119 := Tryz.underlying264
  a119 := Tryz.isAgg264
  z119 := Tryz.sizeOf264
  t141 := Tryz.underlying280
  a141 := Tryz.isAgg280
  z141 := Tryz.sizeOf280
  v141 := Tryz.zeroValue280
  t152 := Tryz.underlying275
  a152 := Tryz.isAgg275
  z152 := Tryz.sizeOf275
  v152 := Tryz.zeroValue275
  t154 := Tryz.underlying277
  a154 := Tryz.isAgg277
  z154 := Tryz.sizeOf277
  v154 := Tryz.zeroValue277
  t193 := Tryz.underlying286
  a193 := Tryz.isAgg286
  z193 := Tryz.sizeOf286
  v193 := Tryz.zeroValue286
  t194 := Tryz.underlying287
  a194 := Tryz.isAgg287
  z194 := Tryz.sizeOf287
  v194 := Tryz.zeroValue287
  t196 := Tryz.underlying289
  a196 := Tryz.isAgg289
  z196 := Tryz.sizeOf289
  v196 := Tryz.zeroValue289
  t198 := Tryz.underlying292
  a198 := Tryz.isAgg292
  z198 := Tryz.sizeOf292
  v198 := Tryz.zeroValue292
  t201 := Tryz.underlying295
  a201 := Tryz.isAgg295
  z201 := Tryz.sizeOf295
  v201 := Tryz.zeroValue295
  t226 := Tryz.underlying300
  a226 := Tryz.isAgg300
  z226 := Tryz.sizeOf300
  v226 := Tryz.zeroValue300
  t227 := Tryz.underlying301
  a227 := Tryz.isAgg301
  z227 := Tryz.sizeOf301
  v227 := Tryz.zeroValue301
  g0 := by kernel_rfl
  g6 := by kernel_rfl }
def Tryz.layWB_ren : Go.Shelf.Ren := ⟨fun | 167 => 74 | 240 => 120 | 276 => 154 | n => n, fun | 70 => 89 | 5 => 5 | 75 => 166 | 0 => 0 | 72 => 92 | 37 => 90 | 4 => 4 | 164 => 258 | 80 => 95 | 9 => 9 | 20 => 20 | n => n, fun | n => n⟩
theorem Tryz.layWB : Go.Proofs.Lays.n167 Tryz.prog Tryz.layWB_ren := {
  mixed := by kernel_rfl
  f167 := Tryz.func74.trans (congrArg some (by kernel_rfl))
  f240 := Tryz.func120.trans (congrArg some (by kernel_rfl))
  f276 := Tryz.func154.trans (congrArg some (by kernel_rfl))
  t0 := Tryz.underlying0
  a0 := Tryz.isAgg0
  z0 := Tryz.sizeOf0
  v0 := Tryz.zeroValue0
  t4 := Tryz.underlying4
  a4 := Tryz.isAgg4
  z4 := Tryz.sizeOf4
  v4 := Tryz.zeroValue4
  t5 := Tryz.underlying5
  a5 := Tryz.isAgg5
  z5 := Tryz.sizeOf5
  v5 := Tryz.zeroValue5
  t9 := Tryz.underlying9
  a9 := Tryz.isAgg9
  z9 := Tryz.sizeOf9
  v9 := Tryz.zeroValue9
  t20 := Tryz.underlying20
  a20 := Tryz.isAgg20
  z20 := Tryz.sizeOf20
  v20 := Tryz.zeroValue20
  t37 := Tryz.underlying90
  a37 := Tryz.isAgg90
  z37 := Tryz.sizeOf90
  v37 := Tryz.zeroValue90
  t70 := Tryz.underlying89
  a70 := Tryz.isAgg89
  z70 := Tryz.sizeOf89
  v70 := Tryz.zeroValue89
  t72 := Tryz.underlying92
  a72 := Tryz.isAgg92
  z72 := Tryz.sizeOf92
  v72 := Tryz.zeroValue92
  t75 := Tryz.underlying166
  a75 := Tryz.isAgg166
  z75 := Tryz.sizeOf166
  v75 := Tryz.zeroValue166
  t164 := Tryz.underlying258
  a164 := Tryz.isAgg258
  z164 := Tryz.sizeOf258
  v164 := Tryz.zeroValue258 }
def Tryz.layWS_ren : Go.Shelf.Ren := ⟨fun | 166 => 75 | 240 => 120 | 276 => 154 | n => n, fun | 70 => 89 | 9 => 9 | 3 => 3 | 75 => 166 | 0 => 0 | 72 => 92 | 37 => 90 | 4 => 4 | 164 => 258 | 80 => 95 | 5 => 5 | 20 => 20 | n => n, fun | n => n⟩
theorem Tryz.layWS : Go.Proofs.Lays.n166 Tryz.prog Tryz.layWS_ren := {
  mixed := by kernel_rfl
  f166 := Tryz.func75.trans (congrArg some (by kernel_rfl))
  f240 := Tryz.func120.trans (congrArg some (by kernel_rfl))
  f276 := Tryz.func154.trans (congrArg some (by kernel_rfl))
  t0 := Tryz.underlying0
  a0 := Tryz.isAgg0
  z0 := Tryz.sizeOf0
  v0 := Tryz.zeroValue0
  t3 := Tryz.underlying3
  a3 := Tryz.isAgg3
  z3 := Tryz.sizeOf3
  v3 := Tryz.zeroValue3
  t4 := Tryz.underlying4
  a4 := Tryz.isAgg4
  z4 := Tryz.sizeOf4
  v4 := Tryz.zeroValue4
  t9 := Tryz.underlying9
  a9 := Tryz.isAgg9
  z9 := Tryz.sizeOf9
  v9 := Tryz.zeroValue9
  t20 := Tryz.underlying20
  a20 := Tryz.isAgg20
  z20 := Tryz.sizeOf20
  v20 := Tryz.zeroValue20
  t37 := Tryz.underlying90
  a37 := Tryz.isAgg90
  z37 := Tryz.sizeOf90
  v37 := Tryz.zeroValue90
  t70 := Tryz.underlying89
  a70 := Tryz.isAgg89
  z70 := Tryz.sizeOf89
  v70 := Tryz.zeroValue89
  t72 := Tryz.underlying92
  a72 := Tryz.isAgg92
  z72 := Tryz.sizeOf92
  v72 := Tryz.zeroValue92
  t75 := Tryz.underlying166
  a75 := Tryz.isAgg166
  z75 := Tryz.sizeOf166
  v75 := Tryz.zeroValue166
  t164 := Tryz.underlying258
  a164 := Tryz.isAgg258
  z164 := Tryz.sizeOf258
  v164 := Tryz.zeroValue258 }
def Tryz.layBS_ren : Go.Shelf.Ren := ⟨fun | 169 => 39 | n => n, fun | 70 => 89 | 9 => 9 | 0 => 0 | 72 => 92 | 37 => 90 | 127 => 172 | 3 => 3 | 5 => 5 | 20 => 20 | n => n, fun | n => n⟩
theorem Tryz.layBS : Go.Proofs.Lays.n169 Tryz.prog Tryz.layBS_ren := {
  mixed := by kernel_rfl
  f169 := Tryz.func39.trans (congrArg some (by kernel_rfl))
  t0 := Tryz.underlying0
  a0 := Tryz.isAgg0
  z0 := Tryz.sizeOf0
  v0 := Tryz.zeroValue0
  t3 := Tryz.underlying3
  a3 := Tryz.isAgg3
  z3 := Tryz.sizeOf3
  v3 := Tryz.zeroValue3
  t9 := Tryz.underlying9
  a9 := Tryz.isAgg9
  z9 := Tryz.sizeOf9
  v9 := Tryz.zeroValue9
  t37 := Tryz.underlying90
  a37 := Tryz.isAgg90
  z37 := Tryz.sizeOf90
  v37 := Tryz.zeroValue90
  t70 := Tryz.underlying89
  a70 := Tryz.isAgg89
  z70 := Tryz.sizeOf89
  v70 := Tryz.zeroValue89
  t72 := Tryz.underlying92
  a72 := Tryz.isAgg92
  z72 := Tryz.sizeOf92
  v72 := Tryz.zeroValue92
  t127 := Tryz.underlying172
  a127 := Tryz.isAgg172
  z127 := Tryz.sizeOf172
  v127 := Tryz.zeroValue172 }
def Tryz.layBL_ren : Go.Shelf.Ren := ⟨fun | 170 => 38 | n => n, fun | 70 => 89 | 3 => 3 | 0 => 0 | 72 => 92 | 37 => 90 | 5 => 5 | 20 => 20 | n => n, fun | n => n⟩
theorem Tryz.layBL : Go.Proofs.Lays.n170 Tryz.prog Tryz.layBL_ren := {
  mixed := by kernel_rfl
  f170 := Tryz.func38.trans (congrArg some (by kernel_rfl))
  t0 := Tryz.underlying0
  a0 := Tryz.isAgg0
  z0 := Tryz.sizeOf0
  v0 := Tryz.zeroValue0
  t3 := Tryz.underlying3
  a3 := Tryz.isAgg3
  z3 := Tryz.sizeOf3
  v3 := Tryz.zeroValue3
  t37 := Tryz.underlying90
  a37 := Tryz.isAgg90
  z37 := Tryz.sizeOf90
  v37 := Tryz.zeroValue90
  t70 := Tryz.underlying89
  a70 := Tryz.isAgg89
  z70 := Tryz.sizeOf89
  v70 := Tryz.zeroValue89
  t72 := Tryz.underlying92
  a72 := Tryz.isAgg92
  z72 := Tryz.sizeOf92
  v72 := Tryz.zeroValue92 }
def Tryz.layItoa_ren : Go.Shelf.Ren := ⟨fun | 171 => 76 | 243 => 121 | 246 => 155 | 283 => 180 | 284 => 181 | 285 => 182 | 286 => 183 | 129 => 193 | 317 => 192 | 318 => 194 | 319 => 195 | 320 => 196 | 337 => 203 | 338 => 204 | n => n, fun | 3 => 3 | 9 => 9 | 2 => 2 | 4 => 4 | 171 => 269 | 0 => 0 | 53 => 174 | 37 => 90 | 5 => 5 | 173 => 272 | 212 => 281 | 51 => 278 | 20 => 20 | 213 => 282 | 46 => 283 | 232 => 302 | 233 => 303 | n => n, fun | 17 => 2 | 18 => 3 | 19 => 4 | n => n⟩
theorem Tryz.layItoa : Go.Proofs.LaysM.n171 Tryz.prog Tryz.layItoa_ren := {
  mixed := by kernel_rfl
  f129 := Tryz.func193.trans (congrArg some (by kernel_rfl))
  f171 := Tryz.func76.trans (congrArg some (by kernel_rfl))
  f243 := Tryz.func121.trans (congrArg some (by kernel_rfl))
  f246 := Tryz.func155.trans (congrArg some (by kernel_rfl))
  f283 := Tryz.func180.trans (congrArg some (by kernel_rfl))
  f284 := Tryz.func181.trans (congrArg some (by kernel_rfl))
  f285 := Tryz.func182.trans (congrArg some (by kernel_rfl))
  f286 := Tryz.func183.trans (congrArg some (by kernel_rfl))
  f317 := Tryz.func192.trans (congrArg some (by kernel_rfl))
  f318 := Tryz.func194.trans (congrArg some (by kernel_rfl))
  f319 := Tryz.func195.trans (congrArg some (by kernel_rfl))
  f320 := Tryz.func196.trans (congrArg some (by kernel_rfl))
  f337 := Tryz.func203.trans (congrArg some (by kernel_rfl))
  f338 := Tryz.func204.trans (congrArg some (by kernel_rfl))
  t0 := Tryz.underlying0
  a0 := Tryz.isAgg0
  z0 := Tryz.sizeOf0
  v0 := Tryz.zeroValue0
  t2 := Tryz.underlying2
  a2 := Tryz.isAgg2
  z2 := Tryz.sizeOf2
  v2 := Tryz.zeroValue2
  t3 := Tryz.underlying3
  a3 := Tryz.isAgg3
  z3 := Tryz.sizeOf3
  v3 := Tryz.zeroValue3
  t4 := Tryz.underlying4
  a4 := Tryz.isAgg4
  z4 := Tryz.sizeOf4
  v4 := Tryz.zeroValue4
  t5 := Tryz.underlying5
  a5 := Tryz.isAgg5
  z5 := Tryz.sizeOf5
  v5 := Tryz.zeroValue5
  t9 := Tryz.underlying9
  a9 := Tryz.isAgg9
  z9 := Tryz.sizeOf9
  v9 := Tryz.zeroValue9
  t20 := Tryz.underlying20
  a20 := Tryz.isAgg20
  z20 := Tryz.sizeOf20
  v20 := Tryz.zeroValue20
  t37 := Tryz.underlying90
  a37 := Tryz.isAgg90
  z37 := Tryz.sizeOf90
  v37 := Tryz.zeroValue90
  t46 := Tryz.underlying283
  a46 := Tryz.isAgg283
  z46 := Tryz.sizeOf283
  v46 := Tryz.zeroValue283
  t51 := Tryz.underlying278
  a51 := Tryz.isAgg278
  z51 := Tryz.sizeOf278
  v51 := Tryz.zeroValue278
  t53 := Tryz.underlying174
  a53 := Tryz.isAgg174
  z53 := Tryz.sizeOf174
  v53 := Tryz.zeroValue174
  t171 := Tryz.underlying269
  a171 := Tryz.isAgg269
  z171 := Tryz.sizeOf269
  v171 := Tryz.zeroValue269
  t173 := Tryz.underlying272
  a173 := Tryz.isAgg272
  z173 := Tryz.sizeOf272
  v173 := Tryz.zeroValue272
  t212 := Tryz.underlying281
  a212 := Tryz.isAgg281
  z212 := Tryz.sizeOf281
  v212 := Tryz.zeroValue281
  t213 := Tryz.underlying282
  a213 := Tryz.isAgg282
  z213 := Tryz.sizeOf282
  t232 := Tryz.underlying302
  a232 := Tryz.isAgg302
  z232 := Tryz.sizeOf302
  v232 := Tryz.zeroValue302
  t233 := Tryz.underlying303
  a233 := Tryz.isAgg303
  z233 := Tryz.sizeOf303
  v233 := Tryz.zeroValue303
  g17 := by kernel_rfl
  g18 := by kernel_rfl
  g19 := by kernel_rfl
  i0 := by kernel_rfl
  i2 := by kernel_rfl
  i3 := by kernel_rfl
  i4 := by kernel_rfl
  i5 := by kernel_rfl
  i9 := by kernel_rfl
  i20 := by kernel_rfl
  i37 := by kernel_rfl
  i46 := by kernel_rfl
  i51 := by kernel_rfl
  i53 := by kernel_rfl
  i171 := by kernel_rfl
  i173 := by kernel_rfl
  i212 := by kernel_rfl
  i232 := by kernel_rfl
  i233 := by kernel_rfl
  m17 := by kernel_rfl
  m18 := by kernel_rfl
  m19 := by kernel_rfl }
end Go.Proofs
/- slices of one's own that begin within their row: the tail, the append of one. -/
namespace Go.Vc
open Go
variable {P : Program} {n : Nat} {a : Act} {e : Env} {w : World} {K : EPost} {X : List (Nat × EPost)} {R : EPost} {all : List Oper} {G : List Nat} {ro : Ro}
structure OwnO (w : World) (T : TypeId) (b off cap : Nat) (xs : List Value) : Prop where
  le : xs.length ≤ cap
  max : cap ≤ maxLen
  blk : ∃ pre junk, pre.length = off ∧ Blk w b (pre ++ (xs ++ junk)) T ∧ cap ≤ (xs ++ junk).length
theorem OwnO.kp {w' : World} {T : TypeId} {b off cap : Nat} {xs : List Value} {S : List Nat} (h : OwnO w T b off cap xs) (hk : Kp S w w') (hb : b ∉ S) : OwnO w' T b off cap xs :=
  ⟨h.le, h.max, by obtain ⟨p, j, h1, h2, h3⟩ := h.blk; exact ⟨p, j, h1, hk.blk hb h2, h3⟩⟩
theorem OwnO.lt {T : TypeId} {b off cap : Nat} {xs : List Value} (h : OwnO w T b off cap xs) : b < w.heap.size := by
  obtain ⟨_, _, _, h2, _⟩ := h.blk; exact h2.lt
theorem OwnO.get {T : TypeId} {b off cap : Nat} {xs : List Value} (h : OwnO w T b off cap xs) {i : Nat} {v : Value} (hv : xs[i]? = some v) : w.cell? ⟨b, off + i, none⟩ = some v := by
  obtain ⟨p, j, h1, h2, h3⟩ := h.blk
  refine h2.cell ?_
  rw [List.getElem?_append_right (by omega), h1, Nat.add_sub_cancel_left, List.getElem?_append_left (List.getElem?_eq_some_iff.1 hv).1]
  exact hv
theorem OwnO.tail {T : TypeId} {b off cap : Nat} {x : Value} {xs : List Value} (h : OwnO w T b off cap (x :: xs)) : OwnO w T b (offS off 1 cap 1) (cap - 1) xs := by
  have hl := h.le
  have hm := h.max
  rw [List.length_cons] at hl
  obtain ⟨p, j, h1, h2, h3⟩ := h.blk
  refine ⟨by omega, by omega, ?_⟩
  unfold offS
  by_cases hc : cap = 1
  · rw [if_pos hc]
    have : xs = [] := List.eq_nil_of_length_eq_zero (by omega)
    subst this
    exact ⟨p, x :: j, h1, h2, by simp; omega⟩
  · rw [if_neg hc]
    refine ⟨p ++ [x], j, by simp; omega, ?_, ?_⟩
    · simpa using h2
    · simp only [List.length_append, List.length_cons] at h3 ⊢; omega
section
variable {dst : Option Tmp} {ty : TypeId} {pos : String} {after : Array Edge} {g : Option (Nat × Bool)} {l : List Oper} {t : TypeId} {x y : Operand}
end
end Go.Vc
