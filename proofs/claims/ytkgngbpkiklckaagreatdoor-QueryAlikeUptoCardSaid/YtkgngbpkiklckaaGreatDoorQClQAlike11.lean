/- Query: the parser's marks. -/
import Derived.Test.YtkgngbpkiklckaaGreatDoorQClQAlike10
namespace Go.Vc
open Go Go.Proofs
set_option maxRecDepth 10000
variable {w : World} {p : Nat} {txt : List UInt8} {i : Nat} {k : Tok}
theorem off_ret (h : PB w p txt i k) (R : Value → World → Prop) : RetP Tryz.prog 43 [ptr p] w R (fun v w' => v = refV 301 k.at_ ∧ w' = w) := by
  refine enterP Tryz.call43 Tryz.func43 rfl rfl rfl rfl ?_
  (repeat first|refine zg ?_|refine zo rfl rfl trivial ?_|refine o_load rfl h rfl rfl rfl rfl rfl ?_)
  exact o_callP (refuse_ret _ _ (fun _ _ => False)) rfl rfl rfl (fun v w' h => h) (fun v w' h => h.elim)
theorem chr_get {l : List UInt8} {i : Nat} (hi : i < l.length) : l.drop i = l.getD i 0 :: l.drop (i + 1) := by
  rw [List.drop_eq_getElem_cons hi, List.getD_eq_getElem?_getD, List.getElem?_eq_getElem hi]; rfl
theorem head_drop {l : List UInt8} {i : Nat} : (l.drop i).head? = l[i]? := by rw [List.head?_drop]
theorem u8_33 (c : UInt8) : ((c.toNat : Int) = 33) ↔ c = 33 := by rw [← UInt8.toNat_inj]; simp <;> omega
theorem u8_60 (c : UInt8) : ((c.toNat : Int) = 60) ↔ c = 60 := by rw [← UInt8.toNat_inj]; simp <;> omega
theorem u8_62 (c : UInt8) : ((c.toNat : Int) = 62) ↔ c = 62 := by rw [← UInt8.toNat_inj]; simp <;> omega
theorem u8_61 (c : UInt8) : ((c.toNat : Int) = 61) ↔ c = 61 := by rw [← UInt8.toNat_inj]; simp <;> omega
def oneB (c : UInt8) : Prop := c = 40 ∨ c = 41 ∨ c = 44 ∨ c = 58 ∨ c = 43 ∨ c = 45 ∨ c = 42 ∨ c = 61
theorem oneB_iff (c : UInt8) : oneB c ↔ ((c.toNat : Int) = 40 ∨ (c.toNat : Int) = 41 ∨ (c.toNat : Int) = 44 ∨ (c.toNat : Int) = 58 ∨ (c.toNat : Int) = 43 ∨ (c.toNat : Int) = 45 ∨ (c.toNat : Int) = 42 ∨ (c.toNat : Int) = 61) := by
  unfold oneB
  simp only [← UInt8.toNat_inj]
  simp
  omega
instance (c : UInt8) : Decidable (oneB c) := by unfold oneB; infer_instance
theorem mark_at (hi : i < txt.length) : markLen (txt.drop i) = (if txt.getD i 0 = 33 then (if txt[i + 1]? = some 61 then 2 else 0) else if txt.getD i 0 = 60 ∨ txt.getD i 0 = 62 then (if txt[i + 1]? = some 61 then 2 else 1) else if oneB (txt.getD i 0) then 1 else 0) := by
  rw [chr_get hi]
  simp only [markLen, head_drop]
  rfl
set_option maxHeartbeats 6400000 in
theorem mark_ret (h : PB w p txt i k) (hl : txt.length ≤ 4096) (hi : i < txt.length) :
    RetP Tryz.prog 80 [ptr p, Y (txt.getD i 0)] w (fun v w' => v = .tuple #[] ∧ markLen (txt.drop i) ≠ 0 ∧ PB w' p txt (i + markLen (txt.drop i)) k ∧ Kp [p] w w')
      (fun v w' => markLen (txt.drop i) = 0 ∧ v = refV 300 i ∧ Kp [p] w w') := by
  have hml := mark_at hi
  generalize txt.getD i 0 = c at hml ⊢
  refine enterP Tryz.call80 Tryz.func80 rfl rfl rfl rfl ?_
  refine r_seq ?_
  refine r_bool [0, 1] [ptr p, Y c] 4 (decide (txt[i + 1]? = some 61)) (fun W => Sm w W) ?_ ?_
  · refine r_quietS follows_mixed (by kernel_rfl) ?_
    (repeat first|refine yo rfl rfl (by first|exact trivial|(simp only[AllP];omega)) ?_|refine q_load rfl (fun _ hs => (Sm.blk hs h).cell rfl) rfl rfl rfl rfl ?_)
    refine q_split _ _ rfl rfl rfl (fun h1 => ?_) (fun h1 => ?_)
    · have h1 : ((i : Int) + 1) < txt.length := of_decide_eq_true h1
      (repeat first|refine yo rfl rfl (by first|exact trivial|(simp only[AllP];omega)) ?_|refine yn ?_|refine q_load rfl (fun _ hs => (Sm.blk hs h).cell rfl) rfl rfl rfl rfl ?_)
      intro w' hs
      refine ⟨rfl, ⟨_, rfl, ?_⟩, hs⟩
      rw [decide_eq_decide, u8_61, show ((i : Int) + 1).toNat = i + 1 by omega, List.getD_eq_getElem?_getD, List.getElem?_eq_getElem (by omega)]
      simp
    · have h1 : ¬ ((i : Int) + 1) < txt.length := of_decide_eq_false h1
      (repeat first|refine yo rfl rfl trivial ?_|refine yn ?_)
      intro w' hs
      refine ⟨rfl, ⟨_, rfl, ?_⟩, hs⟩
      rw [List.getElem?_eq_none (by omega)]
      simp
  intro e w1 hs
  have h1 : PB w1 p txt i k := hs.blk h
  have k1 : Kp [p] w w1 := hs.kp [p]
  generalize hz : txt[i + 1]? = z at hml ⊢
  have last : ∀ (m : Nat) (w2 : World), PB w2 p txt (i + m) k → Kp [p] w w2 → markLen (txt.drop i) = m + 1 → ∀ w3, Upd w2 p (.cells ⟨(pC txt (i + m) k).set 1 (I (((i + m : Nat) : Int) + 1))⟩ 103 (0, 0)) w3 → markLen (txt.drop i) ≠ 0 ∧ PB w3 p txt (i + markLen (txt.drop i)) k ∧ Kp [p] w w3 := by
    intro m w2 hB hk hm w3 hu
    refine ⟨by omega, ?_, hk.trans (hu.kp [p] (.inl (by simp)))⟩
    have := hu.blk
    rw [hm, show ((i + (m + 1) : Nat) = i + m + 1) by omega]
    show Blk w3 p [S txt, I ((i + m + 1 : Nat) : Int), S k.text, I k.num, I k.at_] _
    rw [Int.natCast_add]
    exact this
  (repeat first|refine zA ?_|refine zC ?_|refine zg ?_|refine zo rfl rfl trivial ?_|refine zn ?_|refine zb ?_)
  refine r_seq ?_
  refine r_seq ?_
  (repeat first|refine zA ?_|refine zg ?_|refine zo rfl rfl trivial ?_|refine zn ?_)
  refine r_if rfl (fun hc => ?_) (fun hc => ?_)
  · rw [u8_33] at hc
    rw [if_pos hc] at hml
    (repeat first|refine zA ?_|refine zg ?_|refine zo rfl rfl trivial ?_|refine zn ?_|refine ze rfl ?_)
    refine r_ifn rfl (fun h2 => ?_) (fun h2 => ?_)
    · rw [if_neg h2] at hml
      (repeat first|refine zg ?_|refine zo rfl rfl trivial ?_|refine o_load rfl h1 rfl rfl rfl rfl rfl ?_)
      exact o_callP (refuse_ret _ _ (fun _ _ => False)) rfl rfl rfl (fun v w' ⟨h, h'⟩ => ⟨hml, h, h' ▸ k1⟩) (fun v w' h => h.elim)
    · rw [if_pos h2] at hml
      (repeat first|refine zA ?_|refine zg ?_|refine zo rfl rfl trivial ?_|refine zn ?_|refine zk ?_)
      refine r_yes rfl (by simpa using h2) ?_
      (repeat first|refine zg ?_|refine zo rfl rfl (by first|exact trivial|(simp only[AllP];omega)) ?_|refine o_load rfl h1 rfl rfl rfl rfl rfl ?_)
      refine o_store (b := p) (off := 1) (v := I ((i : Int) + 1)) rfl h1 (by simp) rfl rfl rfl rfl rfl rfl ?_
      intro w2 hu2
      have h2 : PB w2 p txt (i + 1) k := hu2.blk
      (repeat first|refine zA ?_|refine zg ?_|refine zo rfl rfl (by first|exact trivial|(simp only[AllP];omega)) ?_|refine zn ?_|refine o_load rfl h2 rfl rfl rfl rfl rfl ?_)
      refine o_store (b := p) (off := 1) (v := I (((i + 1 : Nat) : Int) + 1)) rfl h2 (by simp) rfl rfl rfl rfl rfl rfl ?_
      intro w3 hu3
      (repeat first|refine zn ?_|refine ze rfl ?_)
      exact ⟨_, rfl, rfl, last 1 w2 h2 (k1.trans (hu2.kp [p] (.inl (by simp)))) hml w3 hu3⟩
  · rw [u8_33] at hc
    rw [if_neg hc] at hml
    (repeat refine zk ?_)
    refine r_seq ?_
    refine r_seq ?_
    refine r_bool [0, 4, 29] [ptr p, .bool (decide (z = some 61)), Y c] 32 (decide (c = 60 ∨ c = 62)) (fun W => W = w1) ?_ ?_
    · (repeat first|refine zA ?_|refine zg ?_|refine zo rfl rfl trivial ?_|refine zn ?_)
      refine r_if rfl (fun h2 => ?_) (fun h2 => ?_)
      · (repeat refine zk ?_)
        exact ⟨rfl, ⟨_, rfl, by rw [decide_eq_decide, ← u8_60]; simp [h2]⟩, rfl⟩
      · (repeat first|refine zg ?_|refine zo rfl rfl trivial ?_|refine zn ?_)
        exact ⟨rfl, ⟨_, rfl, by rw [decide_eq_decide, ← u8_60, ← u8_62]; simp [h2]⟩, rfl⟩
    rintro e2 w1' rfl
    refine r_if rfl (fun h2 => ?_) (fun h2 => ?_)
    · rw [if_pos h2] at hml
      (repeat first|refine zA ?_|refine zg ?_|refine zo rfl rfl trivial ?_|refine zn ?_|refine ze rfl ?_)
      refine r_if rfl (fun h3 => ?_) (fun h3 => ?_)
      · rw [if_pos h3] at hml
        (repeat first|refine zg ?_|refine zo rfl rfl (by first|exact trivial|(simp only[AllP];omega)) ?_|refine o_load rfl h1 rfl rfl rfl rfl rfl ?_)
        refine o_store (b := p) (off := 1) (v := I ((i : Int) + 1)) rfl h1 (by simp) rfl rfl rfl rfl rfl rfl ?_
        intro w2 hu2
        have h2 : PB w2 p txt (i + 1) k := hu2.blk
        (repeat first|refine zA ?_|refine zg ?_|refine zo rfl rfl (by first|exact trivial|(simp only[AllP];omega)) ?_|refine zn ?_|refine o_load rfl h2 rfl rfl rfl rfl rfl ?_)
        refine o_store (b := p) (off := 1) (v := I (((i + 1 : Nat) : Int) + 1)) rfl h2 (by simp) rfl rfl rfl rfl rfl rfl ?_
        intro w3 hu3
        (repeat first|refine zn ?_|refine ze rfl ?_)
        exact ⟨_, rfl, rfl, last 1 w2 h2 (k1.trans (hu2.kp [p] (.inl (by simp)))) hml w3 hu3⟩
      · rw [if_neg h3] at hml
        (repeat first|refine zA ?_|refine zg ?_|refine zo rfl rfl (by first|exact trivial|(simp only[AllP];omega)) ?_|refine zk ?_|refine o_load rfl h1 rfl rfl rfl rfl rfl ?_)
        refine o_store (b := p) (off := 1) (v := I (((i + 0 : Nat) : Int) + 1)) rfl h1 (by simp) rfl rfl rfl rfl rfl rfl ?_
        intro w3 hu3
        (repeat first|refine zn ?_|refine ze rfl ?_)
        exact ⟨_, rfl, rfl, last 0 w1' h1 k1 hml w3 hu3⟩
    · rw [if_neg h2] at hml
      refine zk ?_
      refine r_seq ?_
      refine r_bool [0, 4, 29] [ptr p, .bool (decide (z = some 61)), Y c] 35 (decide (oneB c)) (fun W => W = w1') ?_ ?_
      · have fin : ∀ b : Bool, (b = true ↔ oneB c) → b = decide (oneB c) := fun b hb => by rw [Bool.eq_iff_iff, hb, decide_eq_true_eq]
        simp only [oneB_iff] at fin ⊢
        (repeat first|refine zA ?_|refine zg ?_|refine zo rfl rfl trivial ?_|refine zn ?_)
        refine r_if rfl (fun q1 => ?_) (fun q1 => ?_)
        · (repeat refine zk ?_)
          exact ⟨rfl, ⟨_, rfl, by simp [q1]⟩, rfl⟩
        (repeat first|refine zA ?_|refine zg ?_|refine zo rfl rfl trivial ?_|refine zn ?_)
        refine r_if rfl (fun q2 => ?_) (fun q2 => ?_)
        · (repeat refine zk ?_)
          exact ⟨rfl, ⟨_, rfl, by simp [q2]⟩, rfl⟩
        (repeat first|refine zA ?_|refine zg ?_|refine zo rfl rfl trivial ?_|refine zn ?_)
        refine r_if rfl (fun q3 => ?_) (fun q3 => ?_)
        · (repeat refine zk ?_)
          exact ⟨rfl, ⟨_, rfl, by simp [q3]⟩, rfl⟩
        (repeat first|refine zA ?_|refine zg ?_|refine zo rfl rfl trivial ?_|refine zn ?_)
        refine r_if rfl (fun q4 => ?_) (fun q4 => ?_)
        · (repeat refine zk ?_)
          exact ⟨rfl, ⟨_, rfl, by simp [q4]⟩, rfl⟩
        (repeat first|refine zA ?_|refine zg ?_|refine zo rfl rfl trivial ?_|refine zn ?_)
        refine r_if rfl (fun q5 => ?_) (fun q5 => ?_)
        · (repeat refine zk ?_)
          exact ⟨rfl, ⟨_, rfl, by simp [q5]⟩, rfl⟩
        (repeat first|refine zA ?_|refine zg ?_|refine zo rfl rfl trivial ?_|refine zn ?_)
        refine r_if rfl (fun q6 => ?_) (fun q6 => ?_)
        · (repeat refine zk ?_)
          exact ⟨rfl, ⟨_, rfl, by simp [q6]⟩, rfl⟩
        (repeat first|refine zA ?_|refine zg ?_|refine zo rfl rfl trivial ?_|refine zn ?_)
        refine r_if rfl (fun q7 => ?_) (fun q7 => ?_)
        · (repeat refine zk ?_)
          exact ⟨rfl, ⟨_, rfl, by simp [q7]⟩, rfl⟩
        (repeat first|refine zg ?_|refine zo rfl rfl trivial ?_|refine zn ?_)
        exact ⟨rfl, ⟨_, rfl, by simp [q1, q2, q3, q4, q5, q6, q7]⟩, rfl⟩
      rintro e3 w2 rfl
      refine r_if rfl (fun h3 => ?_) (fun h3 => ?_)
      · rw [if_pos h3] at hml
        (repeat first|refine zA ?_|refine zg ?_|refine zo rfl rfl (by first|exact trivial|(simp only[AllP];omega)) ?_|refine ze rfl ?_|refine o_load rfl h1 rfl rfl rfl rfl rfl ?_)
        refine o_store (b := p) (off := 1) (v := I (((i + 0 : Nat) : Int) + 1)) rfl h1 (by simp) rfl rfl rfl rfl rfl rfl ?_
        intro w3 hu3
        (repeat first|refine zn ?_|refine ze rfl ?_)
        exact ⟨_, rfl, rfl, last 0 w2 h1 k1 hml w3 hu3⟩
      · rw [if_neg h3] at hml
        (repeat first|refine zA ?_|refine zg ?_|refine zo rfl rfl trivial ?_|refine ze rfl ?_|refine zk ?_|refine o_load rfl h1 rfl rfl rfl rfl rfl ?_)
        exact o_callP (refuse_ret _ _ (fun _ _ => False)) rfl rfl rfl (fun v w' ⟨h, h'⟩ => ⟨hml, h, h' ▸ k1⟩) (fun v w' h => h.elim)
end Go.Vc
