/- bits: the document's sets (reference): Of, List, Words; sameWords. -/
import Derived.Test.YtkgjibhbhddckaaDoorQClKNil18
import Derived.Test.YtkgjibhbhddckaaDoorQClKNil19
namespace Go.Vc
open Go Go.Proofs
set_option maxRecDepth 10000
variable {w : World}

section
variable {p : Nat} {l : List Nat} {ad : Option Addr} {cap : Nat}
end

/-- the numbers below m -/
def elemsTo (ws : List Nat) (m : Nat) : List Nat := (List.range m).filter (bit ws)
theorem elemsTo_succ (ws : List Nat) (m : Nat) : elemsTo ws (m + 1) = elemsTo ws m ++ if bit ws m then [m] else [] := by
  unfold elemsTo
  rw [List.range_succ, List.filter_append]
  congr 1
  simp [List.filter_cons]
theorem elemsTo_all (ws : List Nat) : elemsTo ws (64 * ws.length) = elems ws := rfl
theorem elemsTo_len (ws : List Nat) (m : Nat) : (elemsTo ws m).length ≤ m := by
  have := List.length_filter_le (bit ws) (List.range m)
  simpa [elemsTo] using this
def Big (ws : List Nat) : Prop := ∃ k, 1048576 ≤ k ∧ bit ws k = true

theorem shr_mod2 (x k : Nat) : (x >>> k) % 2 = 1 ↔ x.testBit k = true := by
  rw [Nat.testBit_eq_decide_div_mod_eq, Nat.shiftRight_eq_div_pow]; simp
end Go.Vc
/- bits: what the document's words are; trim's last word. No program. -/
namespace Go.Vc
open Go

theorem trim_last : ∀ (ws : List Nat), trim ws = [] ∨ ∃ l x, trim ws = l ++ [x] ∧ x ≠ 0
  | [] => .inl rfl
  | x :: r => by
    have hh : trim (x :: r) = match trim r with | [] => if x = 0 then [] else [x] | y :: s => x :: y :: s := rfl
    cases ht : trim r with
    | nil =>
      rw [ht] at hh
      dsimp only at hh
      rw [hh]
      by_cases h0 : x = 0
      · left; simp [h0]
      · right; exact ⟨[], x, by simp [h0], h0⟩
    | cons y s =>
      rw [ht] at hh
      dsimp only at hh
      right
      rcases trim_last r with h1 | ⟨l, z, h1, h2⟩
      · rw [h1] at ht; cases ht
      · rw [hh, ← ht, h1]
        exact ⟨x :: l, z, by simp, h2⟩
theorem WOk.trim {ws : List Nat} (h : WOk ws) : WOk (trim ws) := fun x hx => by
  rw [trim_take] at hx; exact h x (List.mem_of_mem_take hx)
theorem bits_ext {a b : List Nat} (ha : WOk a) (hb : WOk b) (hl : a.length = b.length) (h : ∀ k, bit a k = bit b k) : a = b := by
  apply List.ext_getElem hl
  intro i h1 h2
  have e1 : a[i] = a.getD i 0 := by simp [List.getD_eq_getElem?_getD, h1]
  have e2 : b[i] = b.getD i 0 := by simp [List.getD_eq_getElem?_getD, h2]
  rw [e1, e2]
  apply Nat.eq_of_testBit_eq
  intro j
  by_cases hj : j < 64
  · have := h (64 * i + j)
    unfold bit at this
    have q1 : (64 * i + j) / 64 = i := by omega
    have q2 : (64 * i + j) % 64 = j := by omega
    rwa [q1, q2] at this
  · have p1 : a.getD i 0 < 2 ^ j := Nat.lt_of_lt_of_le (ha.getD i) (Nat.pow_le_pow_right (by omega) (by omega))
    have p2 : b.getD i 0 < 2 ^ j := Nat.lt_of_lt_of_le (hb.getD i) (Nat.pow_le_pow_right (by omega) (by omega))
    rw [Nat.testBit_lt_two_pow p1, Nat.testBit_lt_two_pow p2]
/-- the length of what is trimmed: the last number's word -/
theorem trim_len_bit {ws : List Nat} (hok : WOk ws) {k : Nat} (hb : bit ws k = true) : k / 64 < (trim ws).length := by
  rw [← bit_trim] at hb
  have := bit_lt hb; omega
theorem trim_has {ws : List Nat} (hok : WOk ws) (hne : trim ws ≠ []) : ∃ k, bit ws k = true ∧ k / 64 + 1 = (trim ws).length := by
  rcases trim_last ws with h | ⟨l, x, h, hx⟩
  · exact absurd h hne
  · have hxl : x < 2 ^ 64 := hok.trim x (by rw [h]; simp)
    obtain ⟨i, hi, h1, _⟩ := least_bit hxl hx
    refine ⟨64 * l.length + i, ?_, ?_⟩
    · rw [← bit_trim, h]
      unfold bit
      have q1 : (64 * l.length + i) / 64 = l.length := by omega
      have q2 : (64 * l.length + i) % 64 = i := by omega
      rw [q1, q2, List.getD_eq_getElem?_getD]
      simp [h1]
    · rw [h, List.length_append]
      simp; omega
theorem big_iff {ws : List Nat} (hok : WOk ws) : Big ws ↔ 16384 < (trim ws).length := by
  constructor
  · rintro ⟨k, h1, h2⟩
    have := trim_len_bit hok h2; omega
  · intro h
    obtain ⟨k, h1, h2⟩ := trim_has hok (by intro h0; rw [h0] at h; simp at h)
    exact ⟨k, by omega, h1⟩
theorem elems_trim (ws : List Nat) : elems (trim ws) = elems ws := by
  have hl := trim_len ws
  have e1 : elems (trim ws) = (List.range (64 * (trim ws).length)).filter (bit ws) := by
    unfold elems
    apply List.filter_congr
    intro j _
    exact bit_trim ws j
  have e2 : 64 * ws.length = 64 * (trim ws).length + (64 * ws.length - 64 * (trim ws).length) := by omega
  rw [e1]
  conv => rhs; unfold elems
  rw [e2, List.range_add, List.filter_append]
  have : (List.map (fun x => 64 * (trim ws).length + x) (List.range (64 * ws.length - 64 * (trim ws).length))).filter (bit ws) = [] := by
    rw [List.filter_eq_nil_iff]
    intro x hx
    obtain ⟨y, _, rfl⟩ := List.mem_map.1 hx
    intro hb
    rw [← bit_trim] at hb
    have := bit_lt hb; omega
  rw [this, List.append_nil]
theorem elems_sorted (ws : List Nat) : (elems ws).Pairwise (· < ·) := List.Pairwise.filter _ List.pairwise_lt_range

/-! ### The document's words -/
def owW (n : Nat) (l : List Nat) : List Nat := l.foldl (fun ws k => ws.set (k / 64) (ws.getD (k / 64) 0 + 2 ^ (k % 64))) (List.replicate n 0)
def refW (l : List Nat) : List Nat := match l.getLast? with
  | none => []
  | some k => owW (k / 64 + 1) l
theorem owW_snoc (n : Nat) (l : List Nat) (k : Nat) : owW n (l ++ [k]) = (owW n l).set (k / 64) ((owW n l).getD (k / 64) 0 + 2 ^ (k % 64)) := by
  unfold owW; rw [List.foldl_append]; rfl
theorem owW_len (n : Nat) (l : List Nat) : (owW n l).length = n := by
  unfold owW
  have : ∀ (l ws : List Nat), (l.foldl (fun ws k => ws.set (k / 64) (ws.getD (k / 64) 0 + 2 ^ (k % 64))) ws).length = ws.length := by
    intro l
    induction l with
    | nil => intro ws; rfl
    | cons k r ih => intro ws; simp only [List.foldl_cons]; rw [ih]; simp
  rw [this]; simp
theorem owW_take {n : Nat} {l : List Nat} (hs : l.Pairwise (· < ·)) (hn : ∀ k ∈ l, k / 64 < n) (i : Nat) (hi : i ≤ l.length) :
    WOk (owW n (l.take i)) ∧ ∀ j, bit (owW n (l.take i)) j = decide (j ∈ l.take i) := by
  induction i with
  | zero =>
    refine ⟨WOk.zeros n, fun j => ?_⟩
    unfold bit owW
    simp [List.getD_eq_getElem?_getD, List.getElem?_replicate]
    split <;> simp
  | succ i ih =>
    obtain ⟨h1, h2⟩ := ih (by omega)
    have hlt : i < l.length := by omega
    have htk : l.take (i + 1) = l.take i ++ [l[i]] := by rw [List.take_add_one, List.getElem?_eq_getElem hlt]; rfl
    have hlow : ∀ j, j ∈ l.take i → j < l[i] := by
      intro j hj
      have hp := hs
      rw [← List.take_append_drop (i + 1) l, htk] at hp
      exact (List.pairwise_append.1 (List.pairwise_append.1 hp).1).2.2 j hj _ (by simp)
    have hk := hn l[i] (List.getElem_mem hlt)
    rw [htk, owW_snoc]
    generalize l[i] = k at hlow hk
    have hx : (owW n (l.take i)).getD (k / 64) 0 < 2 ^ (k % 64) := by
      apply Nat.lt_pow_two_of_testBit
      intro j hj
      by_cases hj64 : j < 64
      · have := h2 (64 * (k / 64) + j)
        unfold bit at this
        have q1 : (64 * (k / 64) + j) / 64 = k / 64 := by omega
        have q2 : (64 * (k / 64) + j) % 64 = j := by omega
        rw [q1, q2] at this
        rw [this, decide_eq_false]
        intro hm
        have := hlow _ hm; omega
      · exact Nat.testBit_lt_two_pow (Nat.lt_of_lt_of_le (h1.getD _) (Nat.pow_le_pow_right (by omega) (by omega)))
    have hadd : (owW n (l.take i)).getD (k / 64) 0 + 2 ^ (k % 64) = (owW n (l.take i)).getD (k / 64) 0 ||| 2 ^ (k % 64) := by
      have := Nat.two_pow_add_eq_or_of_lt hx 1
      rw [Nat.mul_one] at this
      rw [Nat.add_comm, this, Nat.or_comm]
    rw [hadd]
    have hlen := owW_len n (l.take i)
    refine ⟨h1.set (Nat.or_lt_two_pow (h1.getD _) (Nat.pow_lt_pow_right (by omega) (by omega))), fun j => ?_⟩
    unfold bit
    rw [getD_set _ _ _ _ (by omega)]
    have h2j := h2 j
    unfold bit at h2j
    by_cases hjk : k / 64 = j / 64
    · rw [if_pos hjk, Nat.testBit_or, Nat.testBit_two_pow, hjk, h2j, Bool.eq_iff_iff]
      simp
      constructor
      · rintro (h | h)
        · exact .inl h
        · right; omega
      · rintro (h | h)
        · exact .inl h
        · right; omega
    · rw [if_neg hjk, h2j, decide_eq_decide]
      constructor
      · intro h; exact List.mem_append_left _ h
      · intro h
        rcases List.mem_append.1 h with h | h
        · exact h
        · simp at h; subst h; exact absurd rfl hjk
theorem refW_elems {ws : List Nat} (hok : WOk ws) : refW (elems ws) = trim ws := by
  unfold refW
  cases hl : (elems ws).getLast? with
  | none =>
    have he : elems ws = [] := by simpa using hl
    by_cases hne : trim ws = []
    · exact hne.symm
    · obtain ⟨k, h1, _⟩ := trim_has hok hne
      have := mem_elems.2 h1
      rw [he] at this; cases this
  | some k =>
    dsimp only
    have hmem : k ∈ elems ws := List.mem_of_getLast? hl
    have hmax : ∀ j ∈ elems ws, j ≤ k := by
      intro j hj
      have hs := elems_sorted ws
      obtain ⟨pre, hp⟩ : ∃ pre, elems ws = pre ++ [k] := List.getLast?_eq_some_iff.1 hl
      rw [hp] at hs hj
      rcases List.mem_append.1 hj with h | h
      · exact Nat.le_of_lt ((List.pairwise_append.1 hs).2.2 j h k (by simp))
      · simp at h; omega
    have h1 := trim_len_bit hok (mem_elems.1 hmem)
    obtain ⟨k', h2, h3⟩ := trim_has hok (by intro h0; rw [h0] at h1; simp at h1)
    have h4 := hmax k' (mem_elems.2 h2)
    have hlen : (trim ws).length = k / 64 + 1 := by omega
    have ho := owW_take (n := k / 64 + 1) (elems_sorted ws) (fun j hj => by have := hmax j hj; omega) (elems ws).length (Nat.le_refl _)
    rw [List.take_length] at ho
    refine bits_ext ho.1 hok.trim (by rw [owW_len, hlen]) (fun j => ?_)
    rw [ho.2 j, bit_trim]
    cases hb : bit ws j with
    | true => exact decide_eq_true (mem_elems.2 hb)
    | false => exact decide_eq_false (fun h => by have := mem_elems.1 h; rw [hb] at this; cases this)
end Go.Vc
/- bits: Of; the document's Words; sameWords. -/
namespace Go.Vc
open Go Go.Proofs
set_option maxRecDepth 10000
variable {w : World}

/-! ### A set of any length, and trim -/
structure SetB (w : World) (p : Nat) (ws : List Nat) (ad : Option Addr) (cap : Nat) : Prop where
  hdr : Blk w p [B true, .slice ad ws.length cap] 150
  own : OwnS w 151 1 ad ws.length cap (ws.map U)
  ok : WOk ws
  len : ws.length ≤ 17592186044416
  far : 0 ∉ p :: blkOf ad
section
variable {p : Nat} {ws : List Nat} {ad : Option Addr} {cap : Nat}
theorem SetB.p_ad (h : SetB w p ws ad cap) : p ∉ blkOf ad := by
  intro hb
  have h1 := h.hdr; have h2 := h.own.2
  cases ad with
  | none => simp [blkOf] at hb
  | some ad =>
    simp [blkOf] at hb; subst hb
    obtain ⟨_, _, _, _, junk, h5, _⟩ := h2
    unfold Blk at h1 h5; rw [h1] at h5; simp at h5
theorem SetB.sm {w' : World} (h : SetB w p ws ad cap) (hs : Sm w w') : SetB w' p ws ad cap := ⟨hs.blk h.hdr, h.own.sm hs, h.ok, h.len, h.far⟩
theorem SetB.blk (h : SetB w p ws ad cap) (hne : 0 < ws.length) : ∃ b junk, ad = some ⟨b, 0, none⟩ ∧ Blk w b (ws.map U ++ junk) 151 := by
  cases ad with
  | none => have := h.own.2.1; omega
  | some ad =>
    obtain ⟨b, off, spot⟩ := ad
    obtain ⟨h1, h2, _, _, junk, h5, _⟩ := h.own.2
    cases h1; cases h2
    exact ⟨b, junk, rfl, h5⟩
theorem trimB_ret (h : SetB w p ws ad cap) :
    Ret Tryd.prog 67 [ptr p] w (fun v w' => v = .tuple #[] ∧ SetB w' p (trim ws) ad cap ∧ Kp [p] w w') := by
  have hlen := h.len
  refine enter Tryd.call67 Tryd.func67 rfl rfl rfl rfl ?_
  (repeat first|refine zA ?_|refine zB ?_|refine zC ?_|refine zD ?_|refine zE ?_|refine zg ?_|refine zo rfl rfl (by first|exact trivial|(simp only[AllP];omega)|(simp(discharger:=omega)only[AllP,cA,cB];omega)|(simp only[AllP,cC,cD,cE,cF,cG];omega)) ?_|refine zn ?_|refine zb ?_|refine ze rfl ?_|refine zr ?_|refine zk ?_|refine zT rfl rfl rfl ?_|refine zU rfl rfl rfl ?_|refine zV rfl rfl rfl ?_|refine zf rfl ?_|refine zt rfl ?_)
  refine o_load rfl h.hdr rfl rfl rfl rfl rfl ?_
  (repeat first|refine zA ?_|refine zB ?_|refine zC ?_|refine zD ?_|refine zE ?_|refine zg ?_|refine zo rfl rfl (by first|exact trivial|(simp only[AllP];omega)|(simp(discharger:=omega)only[AllP,cA,cB];omega)|(simp only[AllP,cC,cD,cE,cF,cG];omega)) ?_|refine zn ?_|refine zb ?_|refine ze rfl ?_|refine zr ?_|refine zk ?_|refine zT rfl rfl rfl ?_|refine zU rfl rfl rfl ?_|refine zV rfl rfl rfl ?_|refine zf rfl ?_|refine zt rfl ?_)
  refine r_loop (α := Nat) [0, 2] (fun g => [ptr p, I g]) (fun g w1 => Sm w w1 ∧ g ≤ ws.length ∧ trim (ws.take g) = trim ws) (fun g => g) ws.length rfl ⟨Sm.refl _, Nat.le_refl _, by simp⟩ ?_
  rintro g e w1 ⟨hs, hg, htr⟩
  have h1 := h.sm hs
  (repeat first|refine zA ?_|refine zB ?_|refine zC ?_|refine zD ?_|refine zE ?_|refine zg ?_|refine zo rfl rfl (by first|exact trivial|(simp only[AllP];omega)|(simp(discharger:=omega)only[AllP,cA,cB];omega)|(simp only[AllP,cC,cD,cE,cF,cG];omega)) ?_|refine zn ?_|refine zb ?_|refine ze rfl ?_|refine zr ?_|refine zk ?_|refine zT rfl rfl rfl ?_|refine zU rfl rfl rfl ?_|refine zV rfl rfl rfl ?_|refine zf rfl ?_|refine zt rfl ?_)
  have hcap := h.own.le_cap
  refine o_bool [0, 2] [ptr p, I g] 20 (decide (0 < g ∧ ws.getD (g - 1) 0 = 0)) (fun w => w = w1) ?_ ?_
  · refine o_split 2 true rfl rfl rfl (fun hb => ?_) (fun hb => ?_)
    · have hb' : 0 < g := by simpa using hb
      (repeat first|refine zo rfl rfl (by first|exact trivial|(simp only[AllP];omega)|(simp(discharger:=omega)only[AllP,cA,cB];omega)|(simp only[AllP,cC,cD,cE,cF,cG];omega)) ?_|refine zn ?_|refine zT rfl rfl rfl ?_|refine zU rfl rfl rfl ?_|refine zV rfl rfl rfl ?_)
      refine o_load rfl h1.hdr rfl rfl rfl rfl rfl ?_
      obtain ⟨b, junk, rfl, hblk⟩ := h1.blk (by omega)
      (repeat first|refine zo rfl rfl (by first|exact trivial|(simp only[AllP];omega)|(simp(discharger:=omega)only[AllP,cA,cB];omega)|(simp only[AllP,cC,cD,cE,cF,cG];omega)) ?_|refine zn ?_|refine zT rfl rfl rfl ?_|refine zU rfl rfl rfl ?_|refine zV rfl rfl rfl ?_)
      refine o_loadc (v := U (ws.getD (g - 1) 0)) rfl ?_ rfl rfl rfl rfl ?_
      · show w1.cell? ⟨b, 0 + ((g : Int) - 1).toNat, none⟩ = _
        have e1 : 0 + ((g : Int) - 1).toNat = g - 1 := by omega
        rw [e1]
        refine hblk.cell ?_
        have hlt : g - 1 < ws.length := by omega
        rw [List.getElem?_append_left (by simpa using hlt), List.getElem?_map, List.getD_eq_getElem?_getD, List.getElem?_eq_getElem hlt]; rfl
      (repeat first|refine zo rfl rfl (by first|exact trivial|(simp only[AllP];omega)|(simp(discharger:=omega)only[AllP,cA,cB];omega)|(simp only[AllP,cC,cD,cE,cF,cG];omega)) ?_|refine zn ?_|refine zT rfl rfl rfl ?_|refine zU rfl rfl rfl ?_|refine zV rfl rfl rfl ?_)
      refine ⟨rfl, ⟨_, rfl, ?_⟩, rfl⟩
      simp only [hb', true_and, decide_eq_decide]
      omega
    · have hb' : ¬ 0 < g := by simpa using hb
      (repeat first|refine zo rfl rfl (by first|exact trivial|(simp only[AllP];omega)|(simp(discharger:=omega)only[AllP,cA,cB];omega)|(simp only[AllP,cC,cD,cE,cF,cG];omega)) ?_|refine zn ?_|refine zT rfl rfl rfl ?_|refine zU rfl rfl rfl ?_|refine zV rfl rfl rfl ?_)
      exact ⟨rfl, ⟨_, rfl, by simp [hb']⟩, rfl⟩
  rintro e w2 rfl
  refine r_if rfl (fun hc => ?_) (fun hc => ?_)
  · have e1 : ws.take g = ws.take (g - 1) ++ [0] := by
      have hlt : g - 1 < ws.length := by omega
      have h2 : ws[g - 1]? = some 0 := by rw [List.getElem?_eq_getElem hlt]; have := hc.2; rw [List.getD_eq_getElem?_getD, List.getElem?_eq_getElem hlt] at this; simpa using this
      have h3 : g = g - 1 + 1 := by omega
      rw [h3, List.take_add_one, h2]; rfl
    (repeat first|refine zA ?_|refine zB ?_|refine zC ?_|refine zD ?_|refine zE ?_|refine zg ?_|refine zo rfl rfl (by first|exact trivial|(simp only[AllP];omega)|(simp(discharger:=omega)only[AllP,cA,cB];omega)|(simp only[AllP,cC,cD,cE,cF,cG];omega)) ?_|refine zn ?_|refine zb ?_|refine ze rfl ?_|refine zr ?_|refine zk ?_|refine zT rfl rfl rfl ?_|refine zU rfl rfl rfl ?_|refine zV rfl rfl rfl ?_|refine zf rfl ?_|refine zt rfl ?_)
    refine ⟨g - 1, ?_, ⟨hs, by omega, by rw [← htr, e1, trim_snoc0]⟩, by omega⟩
    have : ((g : Int) - 1) = ((g - 1 : Nat) : Int) := by omega
    exact congrArg (fun z => [ptr p, I z]) this
  · have e1 : trim ws = ws.take g := by
      rw [← htr]
      by_cases h0 : 0 < g
      · have hlt : g - 1 < ws.length := by omega
        have h3 : g = g - 1 + 1 := by omega
        have h2 : ws.take g = ws.take (g - 1) ++ [ws.getD (g - 1) 0] := by
          conv => lhs; rw [h3, List.take_add_one, List.getElem?_eq_getElem hlt]
          rw [List.getD_eq_getElem?_getD, List.getElem?_eq_getElem hlt]; rfl
        rw [h2]; exact trim_snoc (fun hz => hc ⟨h0, hz⟩)
      · have : g = 0 := by omega
        subst this; rfl
    (repeat first|refine zA ?_|refine zB ?_|refine zC ?_|refine zD ?_|refine zE ?_|refine zg ?_|refine zo rfl rfl (by first|exact trivial|(simp only[AllP];omega)|(simp(discharger:=omega)only[AllP,cA,cB];omega)|(simp only[AllP,cC,cD,cE,cF,cG];omega)) ?_|refine zn ?_|refine zb ?_|refine ze rfl ?_|refine zr ?_|refine zk ?_|refine zT rfl rfl rfl ?_|refine zU rfl rfl rfl ?_|refine zV rfl rfl rfl ?_|refine zf rfl ?_|refine zt rfl ?_)
    refine o_load rfl h1.hdr rfl rfl rfl rfl rfl ?_
    (repeat first|refine zA ?_|refine zB ?_|refine zC ?_|refine zD ?_|refine zE ?_|refine zg ?_|refine zo rfl rfl (by first|exact trivial|(simp only[AllP];omega)|(simp(discharger:=omega)only[AllP,cA,cB];omega)|(simp only[AllP,cC,cD,cE,cF,cG];omega)) ?_|refine zn ?_|refine zb ?_|refine ze rfl ?_|refine zr ?_|refine zk ?_|refine zT rfl rfl rfl ?_|refine zU rfl rfl rfl ?_|refine zV rfl rfl rfl ?_|refine zf rfl ?_|refine zt rfl ?_)
    refine o_store rfl h1.hdr (by simp) rfl rfl rfl rfl rfl rfl ?_
    intro w3 hu
    (repeat first|refine zA ?_|refine zB ?_|refine zC ?_|refine zD ?_|refine zE ?_|refine zg ?_|refine zo rfl rfl (by first|exact trivial|(simp only[AllP];omega)|(simp(discharger:=omega)only[AllP,cA,cB];omega)|(simp only[AllP,cC,cD,cE,cF,cG];omega)) ?_|refine zn ?_|refine zb ?_|refine ze rfl ?_|refine zr ?_|refine zk ?_|refine zT rfl rfl rfl ?_|refine zU rfl rfl rfl ?_|refine zV rfl rfl rfl ?_|refine zf rfl ?_|refine zt rfl ?_)
    refine ⟨_, rfl, rfl, ?_, (hs.kp _).trans (hu.kp [p] (.inl (by simp)))⟩
    rw [e1]
    have hl : g = (ws.take g).length := by simp; omega
    have hp := h.p_ad
    refine ⟨?_, ?_, fun x hx => h.ok x (List.mem_of_mem_take hx), by simp; omega, h.far⟩
    · have := hu.blk; rw [← hl]; exact this
    · have := ((h.own.sm hs).take hg).upd hu hp
      rw [← List.map_take] at this
      rw [← hl]; exact this
end

/-! ### The document's Words -/
theorem shl_weight {k : Nat} (hk : k < 63) : IntKind.u64.wrap (((2 ^ k : Nat) : Int) * 2) = ((2 ^ (k + 1) : Nat) : Int) := by
  rw [wrapU, Nat.pow_succ]
  have : 2 ^ k < 2 ^ 63 := Nat.pow_lt_pow_right (by omega) hk
  generalize 2 ^ k = z at this ⊢
  omega
end Go.Vc
