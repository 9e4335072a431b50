/- order: flags of a beginning; lists that are the same. -/
import Derived.Test.YtkgjibhbhddckaaQClTells35
import Derived.Test.YtkgjibhbhddckaaQClTells36
namespace Go.Vc
open Go Go.Proofs
set_option maxRecDepth 10000
variable {w : World}
theorem prsC_get {l : List P3} {i : Nat} {x : P3} (hx : l[i]? = some x) {j : Nat} {v : Value} (hv : (pairC x)[j]? = some v) : (prsC l)[i * 3 + j]? = some v := flC_get (f := pairC) (m := 3) (fun _ => rfl) hx hv
theorem samePairs_yes {ad1 ad2 : Option Addr} {l : List P3} {n1 n2 c1 c2 : Nat} (h1 : ReadS w ad1 (prsC l)) (h2 : ReadS w ad2 (prsC l)) (e1 : l.length = n1) (e2 : l.length = n2) (hl : n1 ≤ 4611686018427387904) :
    Ret Try.prog 25 [.slice ad1 n1 c1, .slice ad2 n2 c2] w (fun v w' => v = .bool true ∧ Sm w w') := by
  subst e1 e2
  refine enter Try.call25 Try.func25 rfl rfl rfl rfl ?_
  (repeat first|refine zA ?_|refine zB ?_|refine zg ?_|refine zo rfl rfl trivial ?_|refine zn ?_)
  refine r_no rfl (by simp) ?_
  (repeat first|refine zA ?_|refine zB ?_|refine zg ?_|refine zo rfl rfl trivial ?_|refine zn ?_|refine zb ?_|refine zk ?_)
  refine r_loop (α := Nat) [0, 1, 5] (fun i => [.slice ad1 l.length c1, .slice ad2 l.length c2, I i]) (fun i w1 => Sm w w1 ∧ i ≤ l.length) (fun i => l.length - i) 0 rfl ⟨Sm.refl _, by omega⟩ ?_
  rintro i e w1 ⟨hs1, hi⟩
  (repeat first|refine zA ?_|refine zB ?_|refine zg ?_|refine zo rfl rfl trivial ?_|refine zn ?_)
  refine r_if rfl (fun hc => ?_) (fun hc => ?_)
  · have hlt : i < l.length := by omega
    obtain ⟨x, hx⟩ : ∃ x, l[i]? = some x := ⟨_, List.getElem?_eq_getElem hlt⟩
    obtain ⟨b1, o1, rfl, _, g1⟩ := h1.at_ (by rw [prsC_len]; omega)
    obtain ⟨b2, o2, rfl, _, g2⟩ := h2.at_ (by rw [prsC_len]; omega)
    have key : ∀ (b o : Nat), (∀ (i : Nat) (v : Value), (prsC l)[i]? = some v → w.cell? ⟨b, o + i, none⟩ = some v) → ∀ w', Sm w1 w' → ∀ j v, (pairC x)[j]? = some v → w'.cell? ⟨b, o + (i : Int).toNat * 3 + j, none⟩ = some v := fun b o g w' hs' j v hv => by
      have := g _ _ (prsC_get hx hv)
      rw [Int.toNat_natCast, Nat.add_assoc, ← this]
      exact World.cell?_of_block (by rw [hs'.heap, hs1.heap])
    (repeat first|refine zC ?_|refine zb ?_|refine zk ?_)
    refine r_seq ?_
    refine r_quietS follows_mixed (by kernel_rfl) ?_
    (repeat refine yo rfl rfl (by first|exact trivial|(simp only[AllP];omega)) ?_)
    refine q_loadA (vs := pairC x) rfl (key b1 o1 g1) rfl rfl rfl rfl rfl rfl ?_
    (repeat refine yo rfl rfl (by first|exact trivial|(simp only[AllP];omega)) ?_)
    refine q_loadA (vs := pairC x) rfl (key b2 o2 g2) rfl rfl rfl rfl rfl rfl ?_
    refine q_neqS [x.1, (x.2.1 : Int), (x.2.2 : Int)] [x.1, (x.2.1 : Int), (x.2.2 : Int)] rfl rfl (by kernel_rfl) (by kernel_rfl) (by kernel_rfl) (by kernel_rfl) (by kernel_rfl) (by kernel_rfl) rfl rfl ?_
    (repeat refine yn ?_)
    intro w2 hs2
    refine r_no rfl (by rw [eqInts_iff.2 rfl]; rfl) ?_
    (repeat first|refine zg ?_|refine zo rfl rfl (by first|exact trivial|(simp only[AllP];omega)) ?_|refine zn ?_|refine zk ?_)
    exact ⟨i + 1, rfl, ⟨hs1.trans hs2, by omega⟩, by omega⟩
  · (repeat first|refine zA ?_|refine zg ?_|refine zo rfl rfl trivial ?_|refine zn ?_|refine ze rfl ?_|refine zr ?_)
    exact ⟨_, rfl, rfl, hs1⟩
theorem sameFlags20_yes {ad1 ad2 : Option Addr} {l : List F2} {n1 n2 c1 c2 : Nat} (h1 : ReadS w ad1 (flgsC l)) (h2 : ReadS w ad2 (flgsC l)) (e1 : l.length = n1) (e2 : l.length = n2) (hl : n1 ≤ 4611686018427387904) :
    Ret Try.prog 19 [.slice ad1 n1 c1, .slice ad2 n2 c2] w (fun v w' => v = .bool true ∧ Sm w w') := by
  subst e1 e2
  refine enter Try.call19 Try.func19 rfl rfl rfl rfl ?_
  (repeat first|refine zA ?_|refine zB ?_|refine zg ?_|refine zo rfl rfl trivial ?_|refine zn ?_)
  refine r_no rfl (by simp) ?_
  (repeat first|refine zA ?_|refine zB ?_|refine zg ?_|refine zo rfl rfl trivial ?_|refine zn ?_|refine zb ?_|refine zk ?_)
  refine r_loop (α := Nat) [0, 1, 5] (fun i => [.slice ad1 l.length c1, .slice ad2 l.length c2, I i]) (fun i w1 => Sm w w1 ∧ i ≤ l.length) (fun i => l.length - i) 0 rfl ⟨Sm.refl _, by omega⟩ ?_
  rintro i e w1 ⟨hs1, hi⟩
  (repeat first|refine zA ?_|refine zB ?_|refine zg ?_|refine zo rfl rfl trivial ?_|refine zn ?_)
  refine r_if rfl (fun hc => ?_) (fun hc => ?_)
  · have hlt : i < l.length := by omega
    obtain ⟨x, hx⟩ : ∃ x, l[i]? = some x := ⟨_, List.getElem?_eq_getElem hlt⟩
    obtain ⟨b1, o1, rfl, _, g1⟩ := h1.at_ (by rw [flgsC_len]; omega)
    obtain ⟨b2, o2, rfl, _, g2⟩ := h2.at_ (by rw [flgsC_len]; omega)
    have key : ∀ (b o : Nat), (∀ (i : Nat) (v : Value), (flgsC l)[i]? = some v → w.cell? ⟨b, o + i, none⟩ = some v) → ∀ w', Sm w1 w' → ∀ j v, (flgC x)[j]? = some v → w'.cell? ⟨b, o + (i : Int).toNat * 2 + j, none⟩ = some v := fun b o g w' hs' j v hv => by
      have := g _ _ (flgsC_get hx hv)
      rw [Int.toNat_natCast, Nat.add_assoc, ← this]
      exact World.cell?_of_block (by rw [hs'.heap, hs1.heap])
    (repeat first|refine zC ?_|refine zb ?_|refine zk ?_)
    refine r_seq ?_
    refine r_quietS follows_mixed (by kernel_rfl) ?_
    (repeat refine yo rfl rfl (by first|exact trivial|(simp only[AllP];omega)) ?_)
    refine q_loadA (vs := flgC x) rfl (key b1 o1 g1) rfl rfl rfl rfl rfl rfl ?_
    (repeat refine yo rfl rfl (by first|exact trivial|(simp only[AllP];omega)) ?_)
    refine q_loadA (vs := flgC x) rfl (key b2 o2 g2) rfl rfl rfl rfl rfl rfl ?_
    refine q_neqS [x.1, x.2] [x.1, x.2] rfl rfl (by kernel_rfl) (by kernel_rfl) (by kernel_rfl) (by kernel_rfl) (by kernel_rfl) (by kernel_rfl) rfl rfl ?_
    (repeat refine yn ?_)
    intro w2 hs2
    refine r_no rfl (by rw [eqInts_iff.2 rfl]; rfl) ?_
    (repeat first|refine zg ?_|refine zo rfl rfl (by first|exact trivial|(simp only[AllP];omega)) ?_|refine zn ?_|refine zk ?_)
    exact ⟨i + 1, rfl, ⟨hs1.trans hs2, by omega⟩, by omega⟩
  · (repeat first|refine zA ?_|refine zg ?_|refine zo rfl rfl trivial ?_|refine zn ?_|refine ze rfl ?_|refine zr ?_)
    exact ⟨_, rfl, rfl, hs1⟩
theorem gonP_all (l : List P3) : gonP (-1) l = l := by unfold gonP; rw [if_neg (by omega)]
end Go.Vc
