/- order: an order in memory; Before, Aside, Past. -/
import Derived.Test.YtkgjibhbhddckaaDoorQClKeeps33
namespace Go.Vc
open Go Go.Proofs
set_option maxRecDepth 10000
variable {w : World}
def OrG.F (g : OrG) : List Nat := g.p :: (blkOf g.ead ++ (blkOf g.rad ++ relBlks g.rp g.mad g.bs))
structure OrAt (w : World) (g : OrG) (E : List Ev) (R : List Int) : Prop extends OrB w g E R where
  rel : ZAt w g.rp E.length g.bs g.M g.mad g.mcap
  bits : ∀ i j, bitM g.M i j = true ↔ Ch (lk E R) i j
  fl : ∀ b, b ∈ g.F → b < w.heap.size
theorem OrAt.kp {w' : World} {S : List Nat} {g : OrG} {E : List Ev} {R : List Int} (h : OrAt w g E R) (hk : Kp S w w') (hS : ∀ b, b ∈ g.F → b ∉ S) : OrAt w' g E R :=
  ⟨h.toOrB.kp hk (fun b hb => hS b (by
    simp only [OrG.F, List.mem_cons, List.mem_append] at hb ⊢
    rcases hb with rfl | hb | hb
    · exact .inl rfl
    · exact .inr (.inl hb)
    · exact .inr (.inr (.inl hb)))), h.rel.kp hk (fun b hb => hS b (by simp [OrG.F, hb])), h.bits, fun b hb => Nat.lt_of_lt_of_le (h.fl b hb) hk.size⟩
theorem OrAt.kp0 {w' : World} {g : OrG} {E : List Ev} {R : List Int} (h : OrAt w g E R) (hk : Kp [] w w') : OrAt w' g E R := h.kp hk (by simp)
theorem OrAt.sm {w' : World} {g : OrG} {E : List Ev} {R : List Int} (h : OrAt w g E R) (hk : Sm w w') : OrAt w' g E R := h.kp0 (hk.kp [])
section
variable {g : OrG} {E : List Ev} {R : List Int}
theorem befI_linked (h : OrAt w g E R) (i j : Int) : linkedB E.length g.M i j = befI E R i j := by
  rw [Bool.eq_iff_iff, befI_iff]
  unfold linkedB nodeB
  simp only [Bool.and_eq_true, decide_eq_true_eq, h.bits]
  constructor
  · rintro ⟨⟨⟨a, _⟩, b, _⟩, c⟩; exact ⟨a, b, c⟩
  · rintro ⟨a, b, c⟩
    have := ch_lt c
    exact ⟨⟨⟨a, by omega⟩, b, by omega⟩, c⟩
theorem oBefore_ret (h : OrAt w g E R) (i j : Int) : Ret Tryd.prog 101 [ptr g.p, I i, I j] w (fun v w' => v = .bool (befI E R i j) ∧ w' = w) := by
  have hsm := h.small
  refine enter Tryd.call101 Tryd.func101 rfl rfl rfl rfl ?_
  (repeat first|refine zA ?_|refine zg ?_|refine zo rfl rfl trivial ?_|refine zn ?_)
  refine o_call (oLen_ret h.toOrB) rfl rfl rfl ?_
  rintro v w1 ⟨rfl, rfl⟩
  (repeat refine zo rfl rfl trivial ?_)
  by_cases h0 : 0 < E.length
  · refine o_is true 3 true rfl rfl rfl (decide_eq_true (by omega)) ?_
    (repeat refine zo rfl rfl trivial ?_)
    refine o_load rfl h.hdr rfl rfl rfl rfl rfl ?_
    (repeat refine zo rfl rfl trivial ?_)
    refine o_call (zLinked_ret h.rel i j) rfl rfl rfl ?_
    rintro v w1 ⟨rfl, rfl⟩
    (repeat first|refine zo rfl rfl trivial ?_|refine zn ?_|refine zr ?_)
    exact ⟨_, rfl, by rw [befI_linked h], rfl⟩
  · refine o_is false 3 true rfl rfl rfl (decide_eq_false (by omega)) ?_
    (repeat first|refine zo rfl rfl trivial ?_|refine zn ?_|refine zr ?_)
    refine ⟨_, rfl, ?_, rfl⟩
    have : befI E R i j = false := by
      rw [Bool.eq_false_iff]
      intro hb
      have := befI_lt hb; omega
    rw [this]
noncomputable def asideB (E : List Ev) (R : List Int) (i j : Int) : Bool := decide (0 ≤ i ∧ i < E.length) && (decide (0 ≤ j ∧ j < E.length) && (decide (i ≠ j) && (!befI E R i j && !befI E R j i)))
end
end Go.Vc
