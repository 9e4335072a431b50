/- lockset: the law's own small functions. -/
import Derived.Test.YtkgjibhbhddckaaDoorQClKNil35
import Derived.Test.YtkgjibhbhddckaaDoorQClKNil25
namespace Go.Vc
open Go Go.Proofs
set_option maxRecDepth 10000
variable {w : World}
theorem same23_ret {ad1 ad2 : Option Addr} {l1 l2 : List Int} {c1 c2 : Nat} (h1 : ReadS w ad1 (l1.map I)) (h2 : ReadS w ad2 (l2.map I)) (hl : l1.length ≤ 9223372036854775807) :
    Ret Tryd.prog 12 [.slice ad1 l1.length c1, .slice ad2 l2.length c2] w (fun v w' => v = .bool (decide (l1 = l2)) ∧ Sm w w') := by
  refine enter Tryd.call12 Tryd.func12 rfl rfl rfl rfl ?_
  (repeat first|refine zA ?_|refine zB ?_|refine zC ?_|refine zD ?_|refine zE ?_|refine zg ?_|refine zo rfl rfl (by first|exact trivial|(simp only[AllP];omega)|(simp(discharger:=omega)only[AllP,cA,cB];omega)|(simp only[AllP,cC,cD,cE,cF,cG];omega)) ?_|refine zn ?_|refine zb ?_|refine ze rfl ?_|refine zr ?_|refine zk ?_|refine zT rfl rfl rfl ?_|refine zU rfl rfl rfl ?_|refine zV rfl rfl rfl ?_|refine zf rfl ?_|refine zt rfl ?_)
  refine r_ifn (p := (l1.length : Int) = l2.length) rfl (fun hne => ?_) (fun heq => ?_)
  · (repeat first|refine zA ?_|refine zB ?_|refine zC ?_|refine zD ?_|refine zE ?_|refine zg ?_|refine zo rfl rfl (by first|exact trivial|(simp only[AllP];omega)|(simp(discharger:=omega)only[AllP,cA,cB];omega)|(simp only[AllP,cC,cD,cE,cF,cG];omega)) ?_|refine zn ?_|refine zb ?_|refine ze rfl ?_|refine zr ?_|refine zk ?_|refine zT rfl rfl rfl ?_|refine zU rfl rfl rfl ?_|refine zV rfl rfl rfl ?_|refine zf rfl ?_|refine zt rfl ?_)
    refine ⟨_, rfl, ?_, Sm.refl _⟩
    rw [decide_eq_false]
    rintro rfl; exact hne rfl
  have hlen : l1.length = l2.length := by omega
  (repeat first|refine zA ?_|refine zB ?_|refine zC ?_|refine zD ?_|refine zE ?_|refine zg ?_|refine zo rfl rfl (by first|exact trivial|(simp only[AllP];omega)|(simp(discharger:=omega)only[AllP,cA,cB];omega)|(simp only[AllP,cC,cD,cE,cF,cG];omega)) ?_|refine zn ?_|refine zb ?_|refine ze rfl ?_|refine zr ?_|refine zk ?_|refine zT rfl rfl rfl ?_|refine zU rfl rfl rfl ?_|refine zV rfl rfl rfl ?_|refine zf rfl ?_|refine zt rfl ?_)
  refine r_loop (α := Nat) [0, 1, 5] (fun i => [.slice ad1 l1.length c1, .slice ad2 l2.length c2, I i]) (fun i w1 => Sm w w1 ∧ i ≤ l1.length ∧ l1.take i = l2.take i) (fun i => l1.length - i) 0 rfl ⟨Sm.refl _, by omega, rfl⟩ ?_
  rintro i e w1 ⟨hs, hi, htk⟩
  (repeat first|refine zA ?_|refine zB ?_|refine zC ?_|refine zD ?_|refine zE ?_|refine zg ?_|refine zo rfl rfl (by first|exact trivial|(simp only[AllP];omega)|(simp(discharger:=omega)only[AllP,cA,cB];omega)|(simp only[AllP,cC,cD,cE,cF,cG];omega)) ?_|refine zn ?_|refine zb ?_|refine ze rfl ?_|refine zr ?_|refine zk ?_|refine zT rfl rfl rfl ?_|refine zU rfl rfl rfl ?_|refine zV rfl rfl rfl ?_|refine zf rfl ?_|refine zt rfl ?_)
  refine r_if rfl (fun hc => ?_) (fun hc => ?_)
  · have hlt : i < l1.length := by omega
    have hlt2 : i < l2.length := by omega
    obtain ⟨b1, o1, rfl, _, hc1⟩ := h1.at_ (by simp; omega)
    obtain ⟨b2, o2, rfl, _, hc2⟩ := h2.at_ (by simp; omega)
    have g1 : ∀ w', Sm w w' → w'.cell? ⟨b1, o1 + i, none⟩ = some (I l1[i]) := fun w' hs => by
      rw [← hc1 i (I l1[i]) (by simp [hlt])]; exact World.cell?_of_block (by rw [hs.heap])
    have g2 : ∀ w', Sm w w' → w'.cell? ⟨b2, o2 + i, none⟩ = some (I l2[i]) := fun w' hs => by
      rw [← hc2 i (I l2[i]) (by simp [hlt2])]; exact World.cell?_of_block (by rw [hs.heap])
    (repeat first|refine zA ?_|refine zB ?_|refine zC ?_|refine zD ?_|refine zE ?_|refine zg ?_|refine zo rfl rfl (by first|exact trivial|(simp only[AllP];omega)|(simp(discharger:=omega)only[AllP,cA,cB];omega)|(simp only[AllP,cC,cD,cE,cF,cG];omega)) ?_|refine zn ?_|refine zb ?_|refine ze rfl ?_|refine zr ?_|refine zk ?_|refine zT rfl rfl rfl ?_|refine zU rfl rfl rfl ?_|refine zV rfl rfl rfl ?_|refine zf rfl ?_|refine zt rfl ?_)
    refine r_seq ?_
    refine r_quietS follows_mixed (by kernel_rfl) ?_
    (repeat first|refine yo rfl rfl (by first|exact trivial|(simp only[AllP];omega)|(simp(discharger:=omega)only[AllP,cA,cB];omega)|(simp only[AllP,cC,cD,cE,cF,cG];omega)) ?_|refine yn ?_|refine q_know _ _ (some true) rfl rfl rfl ?_|refine q_know _ _ (some false) rfl rfl rfl ?_|refine q_know _ _ none rfl rfl rfl ?_)
    refine q_load rfl (fun w2 hs2 => g1 w2 (hs.trans hs2)) rfl rfl rfl rfl ?_
    (repeat first|refine yo rfl rfl (by first|exact trivial|(simp only[AllP];omega)|(simp(discharger:=omega)only[AllP,cA,cB];omega)|(simp only[AllP,cC,cD,cE,cF,cG];omega)) ?_|refine yn ?_|refine q_know _ _ (some true) rfl rfl rfl ?_|refine q_know _ _ (some false) rfl rfl rfl ?_|refine q_know _ _ none rfl rfl rfl ?_)
    refine q_load rfl (fun w2 hs2 => g2 w2 (hs.trans hs2)) rfl rfl rfl rfl ?_
    (repeat first|refine yo rfl rfl (by first|exact trivial|(simp only[AllP];omega)|(simp(discharger:=omega)only[AllP,cA,cB];omega)|(simp only[AllP,cC,cD,cE,cF,cG];omega)) ?_|refine yn ?_|refine q_know _ _ (some true) rfl rfl rfl ?_|refine q_know _ _ (some false) rfl rfl rfl ?_|refine q_know _ _ none rfl rfl rfl ?_)
    intro w2 hs2
    have t1 : l1.take (i + 1) = l1.take i ++ [l1[i]] := by rw [List.take_add_one, List.getElem?_eq_getElem hlt]; rfl
    have t2 : l2.take (i + 1) = l2.take i ++ [l2[i]] := by rw [List.take_add_one, List.getElem?_eq_getElem hlt2]; rfl
    refine r_ifn (p := l1[i] = l2[i]) rfl (fun hne => ?_) (fun heq => ?_)
    · (repeat first|refine zA ?_|refine zB ?_|refine zC ?_|refine zD ?_|refine zE ?_|refine zg ?_|refine zo rfl rfl (by first|exact trivial|(simp only[AllP];omega)|(simp(discharger:=omega)only[AllP,cA,cB];omega)|(simp only[AllP,cC,cD,cE,cF,cG];omega)) ?_|refine zn ?_|refine zb ?_|refine ze rfl ?_|refine zr ?_|refine zk ?_|refine zT rfl rfl rfl ?_|refine zU rfl rfl rfl ?_|refine zV rfl rfl rfl ?_|refine zf rfl ?_|refine zt rfl ?_)
      refine ⟨_, rfl, ?_, hs.trans hs2⟩
      rw [decide_eq_false]
      rintro rfl; exact hne rfl
    · (repeat first|refine zA ?_|refine zB ?_|refine zC ?_|refine zD ?_|refine zE ?_|refine zg ?_|refine zo rfl rfl (by first|exact trivial|(simp only[AllP];omega)|(simp(discharger:=omega)only[AllP,cA,cB];omega)|(simp only[AllP,cC,cD,cE,cF,cG];omega)) ?_|refine zn ?_|refine zb ?_|refine ze rfl ?_|refine zr ?_|refine zk ?_|refine zT rfl rfl rfl ?_|refine zU rfl rfl rfl ?_|refine zV rfl rfl rfl ?_|refine zf rfl ?_|refine zt rfl ?_)
      exact ⟨i + 1, rfl, ⟨hs.trans hs2, by omega, by rw [t1, t2, htk, heq]⟩, by omega⟩
  · have e1 : i = l1.length := by omega
    have e2 : l1 = l2 := by
      have := htk
      rw [e1, List.take_length] at this
      rw [this, hlen, List.take_length]
    (repeat first|refine zA ?_|refine zB ?_|refine zC ?_|refine zD ?_|refine zE ?_|refine zg ?_|refine zo rfl rfl (by first|exact trivial|(simp only[AllP];omega)|(simp(discharger:=omega)only[AllP,cA,cB];omega)|(simp only[AllP,cC,cD,cE,cF,cG];omega)) ?_|refine zn ?_|refine zb ?_|refine ze rfl ?_|refine zr ?_|refine zk ?_|refine zT rfl rfl rfl ?_|refine zU rfl rfl rfl ?_|refine zV rfl rfl rfl ?_|refine zf rfl ?_|refine zt rfl ?_)
    exact ⟨_, rfl, by rw [decide_eq_true e2], hs⟩
theorem same23_ret2 {ad1 ad2 : Option Addr} {l1 l2 : List Int} {n1 n2 c1 c2 : Nat} (h1 : ReadS w ad1 (l1.map I)) (h2 : ReadS w ad2 (l2.map I)) (e1 : l1.length = n1) (e2 : l2.length = n2) (hl : n1 ≤ 9223372036854775807) :
    Ret Tryd.prog 12 [.slice ad1 n1 c1, .slice ad2 n2 c2] w (fun v w' => v = .bool (decide (l1 = l2)) ∧ Sm w w') := by
  subst e1 e2
  exact same23_ret h1 h2 hl
theorem same23_yes {ad1 ad2 : Option Addr} {l : List Int} {n1 n2 c1 c2 : Nat} (h1 : ReadS w ad1 (l.map I)) (h2 : ReadS w ad2 (l.map I)) (e1 : l.length = n1) (e2 : l.length = n2) (hl : n1 ≤ 9223372036854775807) :
    Ret Tryd.prog 12 [.slice ad1 n1 c1, .slice ad2 n2 c2] w (fun v w' => v = .bool true ∧ Sm w w') :=
  (same23_ret2 h1 h2 e1 e2 hl).mono fun v w' ⟨h, hs⟩ => ⟨by rw [h, decide_eq_true rfl], hs⟩
theorem num23_ret (n : Int) : Ret Tryd.prog 15 [I n] w (fun v w' => v = I n ∧ w' = w) := by
  refine enter Tryd.call15 Tryd.func15 rfl rfl rfl rfl ?_
  (repeat first|refine zA ?_|refine zB ?_|refine zC ?_|refine zD ?_|refine zE ?_|refine zg ?_|refine zo rfl rfl (by first|exact trivial|(simp only[AllP];omega)|(simp(discharger:=omega)only[AllP,cA,cB];omega)|(simp only[AllP,cC,cD,cE,cF,cG];omega)) ?_|refine zn ?_|refine zb ?_|refine ze rfl ?_|refine zr ?_|refine zk ?_|refine zT rfl rfl rfl ?_|refine zU rfl rfl rfl ?_|refine zV rfl rfl rfl ?_|refine zf rfl ?_|refine zt rfl ?_)
  exact ⟨_, rfl, rfl, rfl⟩
theorem flagsC_get : ∀ {l : List (Nat × Int)} {i : Nat} {x : Nat × Int}, l[i]? = some x → ∀ j v, (flagC x)[j]? = some v → (flagsC l)[i * 2 + j]? = some v
  | [], i, x, h, _, _, _ => by simp at h
  | y :: r, 0, x, h, j, v, hv => by
    simp at h; subst h
    have e1 : flagsC (y :: r) = flagC y ++ flagsC r := by simp [flagsC]
    rw [e1, Nat.zero_mul, Nat.zero_add, List.getElem?_append_left ((List.getElem?_eq_some_iff.1 hv).1)]
    exact hv
  | y :: r, i + 1, x, h, j, v, hv => by
    have ih := flagsC_get (l := r) (i := i) (x := x) (by simpa using h) j v hv
    have e1 : flagsC (y :: r) = flagC y ++ flagsC r := by simp [flagsC]
    have l3 : (flagC y).length = 2 := rfl
    rw [e1, List.getElem?_append_right (by omega)]
    have e2 : (i + 1) * 2 + j - (flagC y).length = i * 2 + j := by omega
    rw [e2]; exact ih
theorem sameFlags_yes {ad1 ad2 : Option Addr} {l : List (Nat × Int)} {n1 n2 c1 c2 : Nat} (h1 : ReadS w ad1 (flagsC l)) (h2 : ReadS w ad2 (flagsC l)) (e1 : l.length = n1) (e2 : l.length = n2) (hl : n1 ≤ 4611686018427387904) :
    Ret Tryd.prog 21 [.slice ad1 n1 c1, .slice ad2 n2 c2] w (fun v w' => v = .bool true ∧ Sm w w') := by
  subst e1 e2
  refine enter Tryd.call21 Tryd.func21 rfl rfl rfl rfl ?_
  (repeat first|refine zA ?_|refine zB ?_|refine zC ?_|refine zD ?_|refine zE ?_|refine zg ?_|refine zo rfl rfl (by first|exact trivial|(simp only[AllP];omega)|(simp(discharger:=omega)only[AllP,cA,cB];omega)|(simp only[AllP,cC,cD,cE,cF,cG];omega)) ?_|refine zn ?_|refine zb ?_|refine ze rfl ?_|refine zr ?_|refine zk ?_|refine zT rfl rfl rfl ?_|refine zU rfl rfl rfl ?_|refine zV rfl rfl rfl ?_|refine zf rfl ?_|refine zt rfl ?_)
  refine r_no rfl (by simp) ?_
  (repeat first|refine zA ?_|refine zB ?_|refine zC ?_|refine zD ?_|refine zE ?_|refine zg ?_|refine zo rfl rfl (by first|exact trivial|(simp only[AllP];omega)|(simp(discharger:=omega)only[AllP,cA,cB];omega)|(simp only[AllP,cC,cD,cE,cF,cG];omega)) ?_|refine zn ?_|refine zb ?_|refine ze rfl ?_|refine zr ?_|refine zk ?_|refine zT rfl rfl rfl ?_|refine zU rfl rfl rfl ?_|refine zV rfl rfl rfl ?_|refine zf rfl ?_|refine zt rfl ?_)
  refine r_loop (α := Nat) [0, 1, 5] (fun i => [.slice ad1 l.length c1, .slice ad2 l.length c2, I i]) (fun i w1 => Sm w w1 ∧ i ≤ l.length) (fun i => l.length - i) 0 rfl ⟨Sm.refl _, by omega⟩ ?_
  rintro i e w1 ⟨hs1, hi⟩
  (repeat first|refine zA ?_|refine zB ?_|refine zC ?_|refine zD ?_|refine zE ?_|refine zg ?_|refine zo rfl rfl (by first|exact trivial|(simp only[AllP];omega)|(simp(discharger:=omega)only[AllP,cA,cB];omega)|(simp only[AllP,cC,cD,cE,cF,cG];omega)) ?_|refine zn ?_|refine zb ?_|refine ze rfl ?_|refine zr ?_|refine zk ?_|refine zT rfl rfl rfl ?_|refine zU rfl rfl rfl ?_|refine zV rfl rfl rfl ?_|refine zf rfl ?_|refine zt rfl ?_)
  refine r_if rfl (fun hc => ?_) (fun hc => ?_)
  · have hlt : i < l.length := by omega
    obtain ⟨x, hx⟩ : ∃ x, l[i]? = some x := ⟨_, List.getElem?_eq_getElem hlt⟩
    obtain ⟨b1, o1, rfl, _, g1⟩ := h1.at_ (by rw [flagsC_len]; omega)
    obtain ⟨b2, o2, rfl, _, g2⟩ := h2.at_ (by rw [flagsC_len]; omega)
    have key : ∀ (b o : Nat), (∀ (i : Nat) (v : Value), (flagsC l)[i]? = some v → w.cell? ⟨b, o + i, none⟩ = some v) → ∀ w', Sm w1 w' → ∀ j v, (flagC x)[j]? = some v → w'.cell? ⟨b, o + (i : Int).toNat * 2 + j, none⟩ = some v := fun b o g w' hs' j v hv => by
      have := g _ _ (flagsC_get hx j v hv)
      rw [Int.toNat_natCast, Nat.add_assoc, ← this]
      exact World.cell?_of_block (by rw [hs'.heap, hs1.heap])
    (repeat first|refine zA ?_|refine zB ?_|refine zC ?_|refine zD ?_|refine zE ?_|refine zg ?_|refine zo rfl rfl (by first|exact trivial|(simp only[AllP];omega)|(simp(discharger:=omega)only[AllP,cA,cB];omega)|(simp only[AllP,cC,cD,cE,cF,cG];omega)) ?_|refine zn ?_|refine zb ?_|refine ze rfl ?_|refine zr ?_|refine zk ?_|refine zT rfl rfl rfl ?_|refine zU rfl rfl rfl ?_|refine zV rfl rfl rfl ?_|refine zf rfl ?_|refine zt rfl ?_)
    refine r_seq ?_
    refine r_quietS follows_mixed (by kernel_rfl) ?_
    (repeat first|refine yo rfl rfl (by first|exact trivial|(simp only[AllP];omega)|(simp(discharger:=omega)only[AllP,cA,cB];omega)|(simp only[AllP,cC,cD,cE,cF,cG];omega)) ?_|refine yn ?_|refine q_know _ _ (some true) rfl rfl rfl ?_|refine q_know _ _ (some false) rfl rfl rfl ?_|refine q_know _ _ none rfl rfl rfl ?_)
    refine q_loadA (vs := flagC x) rfl (key b1 o1 g1) rfl rfl rfl rfl rfl rfl ?_
    (repeat first|refine yo rfl rfl (by first|exact trivial|(simp only[AllP];omega)|(simp(discharger:=omega)only[AllP,cA,cB];omega)|(simp only[AllP,cC,cD,cE,cF,cG];omega)) ?_|refine yn ?_|refine q_know _ _ (some true) rfl rfl rfl ?_|refine q_know _ _ (some false) rfl rfl rfl ?_|refine q_know _ _ none rfl rfl rfl ?_)
    refine q_loadA (vs := flagC x) rfl (key b2 o2 g2) rfl rfl rfl rfl rfl rfl ?_
    (repeat first|refine yo rfl rfl (by first|exact trivial|(simp only[AllP];omega)|(simp(discharger:=omega)only[AllP,cA,cB];omega)|(simp only[AllP,cC,cD,cE,cF,cG];omega)) ?_|refine yn ?_|refine q_know _ _ (some true) rfl rfl rfl ?_|refine q_know _ _ (some false) rfl rfl rfl ?_|refine q_know _ _ none rfl rfl rfl ?_)
    refine q_neqS [(x.1 : Int), x.2] [(x.1 : Int), x.2] rfl rfl (by kernel_rfl) (by kernel_rfl) (by kernel_rfl) (by kernel_rfl) (by kernel_rfl) (by kernel_rfl) rfl rfl ?_
    (repeat first|refine yo rfl rfl (by first|exact trivial|(simp only[AllP];omega)|(simp(discharger:=omega)only[AllP,cA,cB];omega)|(simp only[AllP,cC,cD,cE,cF,cG];omega)) ?_|refine yn ?_|refine q_know _ _ (some true) rfl rfl rfl ?_|refine q_know _ _ (some false) rfl rfl rfl ?_|refine q_know _ _ none rfl rfl rfl ?_)
    intro w2 hs2
    refine r_no rfl (by rw [eqInts_iff.2 rfl]; rfl) ?_
    (repeat first|refine zA ?_|refine zB ?_|refine zC ?_|refine zD ?_|refine zE ?_|refine zg ?_|refine zo rfl rfl (by first|exact trivial|(simp only[AllP];omega)|(simp(discharger:=omega)only[AllP,cA,cB];omega)|(simp only[AllP,cC,cD,cE,cF,cG];omega)) ?_|refine zn ?_|refine zb ?_|refine ze rfl ?_|refine zr ?_|refine zk ?_|refine zT rfl rfl rfl ?_|refine zU rfl rfl rfl ?_|refine zV rfl rfl rfl ?_|refine zf rfl ?_|refine zt rfl ?_)
    exact ⟨i + 1, rfl, ⟨hs1.trans hs2, by omega⟩, by omega⟩
  · (repeat first|refine zA ?_|refine zB ?_|refine zC ?_|refine zD ?_|refine zE ?_|refine zg ?_|refine zo rfl rfl (by first|exact trivial|(simp only[AllP];omega)|(simp(discharger:=omega)only[AllP,cA,cB];omega)|(simp only[AllP,cC,cD,cE,cF,cG];omega)) ?_|refine zn ?_|refine zb ?_|refine ze rfl ?_|refine zr ?_|refine zk ?_|refine zT rfl rfl rfl ?_|refine zU rfl rfl rfl ?_|refine zV rfl rfl rfl ?_|refine zf rfl ?_|refine zt rfl ?_)
    exact ⟨_, rfl, rfl, hs1⟩
end Go.Vc
/- slices of records: where each lies, and what a store leaves. -/
namespace Go.Vc
open Go
variable {w : World} {α : Type} {f : α → List Value} {m : Nat}
theorem flC_len (hf : ∀ x, (f x).length = m) (l : List α) : (l.flatMap f).length = l.length * m := by
  induction l with
  | nil => simp
  | cons x r ih => rw [List.flatMap_cons, List.length_append, ih, hf, List.length_cons, Nat.succ_mul]; omega
theorem flC_at (hf : ∀ x, (f x).length = m) (h0 : 0 < m) : ∀ (l : List α) (k : Nat), (l.flatMap f)[k]? = (l[k / m]?).bind fun x => (f x)[k % m]?
  | [], k => by simp
  | y :: r, k => by
    rw [List.flatMap_cons]
    by_cases hk : k < m
    · rw [List.getElem?_append_left (by rw [hf]; exact hk), Nat.div_eq_of_lt hk, Nat.mod_eq_of_lt hk]; rfl
    · obtain ⟨k', rfl⟩ : ∃ k', k = k' + m := ⟨k - m, by omega⟩
      rw [List.getElem?_append_right (by rw [hf]; omega), hf, Nat.add_sub_cancel, flC_at hf h0 r k', Nat.add_div_right _ h0, Nat.add_mod_right]
      rfl
theorem flC_get (hf : ∀ x, (f x).length = m) {l : List α} {i j : Nat} {x : α} {v : Value} (hx : l[i]? = some x) (hv : (f x)[j]? = some v) : (l.flatMap f)[i * m + j]? = some v := by
  have hj : j < m := by rw [← hf x]; exact (List.getElem?_eq_some_iff.1 hv).1
  have e1 : (i * m + j) / m = i := by rw [Nat.mul_comm, Nat.mul_add_div (by omega), Nat.div_eq_of_lt hj]; omega
  have e2 : (i * m + j) % m = j := by rw [Nat.mul_comm, Nat.mul_add_mod, Nat.mod_eq_of_lt hj]
  rw [flC_at hf (by omega), e1, e2, hx]
  exact hv
theorem flC_set (hf : ∀ x, (f x).length = m) (h0 : 0 < m) {l : List α} {i : Nat} (x : α) (hi : i < l.length) (junk : List Value) : setMany (l.flatMap f ++ junk) (i * m) (f x) = (l.set i x).flatMap f ++ junk := by
  have hl := flC_len hf l
  have hl2 := flC_len hf (l.set i x)
  rw [List.length_set] at hl2
  have him : i * m + m ≤ l.length * m := by rw [← Nat.succ_mul]; exact Nat.mul_le_mul_right m hi
  apply List.ext_getElem?
  intro k
  rw [setMany_get _ _ _ _ (by rw [List.length_append, hf]; omega), hf]
  by_cases hk : i * m ≤ k ∧ k < i * m + m
  · obtain ⟨j, rfl⟩ : ∃ j, k = i * m + j := ⟨k - i * m, by omega⟩
    have hj : j < m := by omega
    have e1 : (i * m + j) / m = i := by rw [Nat.mul_comm, Nat.mul_add_div (by omega), Nat.div_eq_of_lt hj]; omega
    have e2 : (i * m + j) % m = j := by rw [Nat.mul_comm, Nat.mul_add_mod, Nat.mod_eq_of_lt hj]
    rw [if_pos hk, List.getElem?_append_left (by omega), flC_at hf h0, e1, e2, List.getElem?_set_self hi, Nat.add_sub_cancel_left]; rfl
  · rw [if_neg hk]
    by_cases hk2 : k < l.length * m
    · rw [List.getElem?_append_left (by omega), List.getElem?_append_left (by omega), flC_at hf h0, flC_at hf h0]
      have : k / m ≠ i := by
        rintro rfl
        have e := Nat.div_add_mod k m
        have h2 := Nat.mod_lt k h0
        rw [Nat.mul_comm] at e
        omega
      rw [List.getElem?_set_ne (fun e => this e.symm)]
    · rw [List.getElem?_append_right (by omega), List.getElem?_append_right (by omega), hl, hl2]
theorem set1_many (L : List Value) (i : Nat) (v : Value) : setMany L i [v] = L.set i v := rfl
theorem OwnS.rec {T : TypeId} {ad : Option Addr} {cap : Nat} {l : List α} (h : OwnS w T m ad l.length cap (l.flatMap f)) (hf : ∀ x, (f x).length = m) (h0 : 0 < m) {i : Nat} (hi : i < l.length) :
    ∃ b L, ad = some ⟨b, 0, none⟩ ∧ Blk w b L T ∧ i * m + m ≤ L.length ∧ (∀ x, l[i]? = some x → ∀ j v, (f x)[j]? = some v → L[i * m + j]? = some v) ∧
      ∀ x w', Upd w b (.cells ⟨setMany L (i * m) (f x)⟩ T (0, 0)) w' → OwnS w' T m ad l.length cap ((l.set i x).flatMap f) := by
  have hl := flC_len hf l
  have him : i * m + m ≤ l.length * m := by rw [← Nat.succ_mul]; exact Nat.mul_le_mul_right m hi
  cases ad with
  | none => obtain ⟨h1, _⟩ := h.2; omega
  | some ad =>
    obtain ⟨b, off, spot⟩ := ad
    obtain ⟨h1, h2, h3, h4, junk, h5, h6⟩ := h.2
    dsimp only at h1 h2 h5
    subst h1 h2
    refine ⟨b, l.flatMap f ++ junk, rfl, h5, by rw [List.length_append]; omega, fun x hx j v hv => ?_, fun x w' hu => ?_⟩
    · have := flC_get hf hx hv
      rw [List.getElem?_append_left (List.getElem?_eq_some_iff.1 this).1]; exact this
    · have hl2 := flC_len hf (l.set i x)
      rw [List.length_set] at hl2
      refine ⟨hl2, rfl, rfl, h3, h4, junk, ?_, ?_⟩
      · have := hu.blk
        rw [flC_set hf h0 x hi] at this
        exact this
      · rw [List.length_append] at h6 ⊢; omega
/-- one cell of a record is stored -/
theorem set_many_cell (L : List Value) {o j : Nat} {cs : List Value} {v : Value} (hL : ∀ j' v', cs[j']? = some v' → L[o + j']? = some v') (hlen : o + cs.length ≤ L.length) (hj : j < cs.length) : setMany L o (cs.set j v) = L.set (o + j) v := by
  apply List.ext_getElem?
  intro k
  rw [setMany_get _ _ _ _ (by simpa using hlen), List.length_set]
  by_cases hk : o ≤ k ∧ k < o + cs.length
  · rw [if_pos hk]
    obtain ⟨r, rfl⟩ : ∃ r, k = o + r := ⟨k - o, by omega⟩
    rw [Nat.add_sub_cancel_left]
    by_cases hr : j = r
    · subst hr
      rw [List.getElem?_set_self hj, List.getElem?_set_self (by omega)]
    · have hr2 : r < cs.length := by omega
      rw [List.getElem?_set_ne hr, List.getElem?_set_ne (by omega), List.getElem?_eq_getElem hr2, hL r _ (List.getElem?_eq_getElem hr2)]
  · rw [if_neg hk, List.getElem?_set_ne (by omega)]
theorem OwnS.readN {T : TypeId} {size : Nat} {ad : Option Addr} {n cap : Nat} {xs : List Value} (h : OwnS w T size ad n cap xs) : ReadS w ad xs := by
  cases ad with
  | none =>
    obtain ⟨h0, h1⟩ := h
    obtain ⟨h2, _⟩ := h1
    subst h2
    exact List.eq_nil_of_length_eq_zero (by omega)
  | some ad =>
    obtain ⟨b, off, spot⟩ := ad
    obtain ⟨_, h1, h2, _, _, junk, h5, _⟩ := h
    dsimp only at h1 h2 h5
    subst h1 h2
    refine ReadS.mk fun i v hv => ?_
    rw [Nat.zero_add]
    exact h5.cell (by rw [List.getElem?_append_left (List.getElem?_eq_some_iff.1 hv).1]; exact hv)
def upB (f : Nat → Bool) (k : Nat) (b : Bool) (i : Nat) : Bool := if i = k then b else f i
def bl (f : Nat → Bool) (n : Nat) : List Value := (List.range n).map fun i => .bool (f i)
theorem bl_len (f : Nat → Bool) (n : Nat) : (bl f n).length = n := by simp [bl]
theorem bl_get (f : Nat → Bool) {n i : Nat} (h : i < n) : (bl f n)[i]? = some (.bool (f i)) := by simp [bl, h]
theorem bl_set (f : Nat → Bool) (n i : Nat) (b : Bool) : (bl f n).set i (.bool b) = bl (upB f i b) n := by
  apply List.ext_getElem?
  intro j
  by_cases hj : j < n
  · rw [bl_get _ hj]
    by_cases hij : i = j
    · subst hij
      rw [List.getElem?_set_self (by rw [bl_len]; exact hj)]; simp [upB]
    · rw [List.getElem?_set_ne hij, bl_get _ hj]
      simp [upB, show ¬ j = i from fun h => hij h.symm]
  · rw [List.getElem?_eq_none (by rw [List.length_set, bl_len]; omega), List.getElem?_eq_none (by rw [bl_len]; omega)]
theorem bl_congr {f g : Nat → Bool} {n : Nat} (h : ∀ i, i < n → f i = g i) : bl f n = bl g n := by
  unfold bl
  apply List.map_congr_left
  intro i hi
  rw [h i (by simpa using hi)]
theorem bl_false (n : Nat) : List.replicate n (Value.bool false) = bl (fun _ => false) n := by
  apply List.ext_getElem?
  intro i
  rw [List.getElem?_replicate]
  by_cases hi : i < n
  · rw [if_pos hi, bl_get _ hi]
  · rw [if_neg hi, List.getElem?_eq_none (by rw [bl_len]; omega)]
open Classical in
noncomputable def propB (p : Prop) : Bool := decide p
open Classical in
theorem propB_iff {p : Prop} : propB p = true ↔ p := @decide_eq_true_iff _ _
theorem propB_congr {p q : Prop} (h : p ↔ q) : propB p = propB q := by rw [Bool.eq_iff_iff, propB_iff, propB_iff]; exact h
end Go.Vc
