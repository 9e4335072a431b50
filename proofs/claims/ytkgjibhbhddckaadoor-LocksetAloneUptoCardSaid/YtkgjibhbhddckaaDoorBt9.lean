/- bits: BitsOrder. -/
import Derived.Test.YtkgjibhbhddckaaDoorBt8
import Derived.Test.YtkgjibhbhddckaaDoorVcArg
namespace Go.Vc
open Go Go.Proofs
set_option maxRecDepth 10000
variable {w : World}

def atI (pre : List Nat) : Int := match pre.getLast? with | some k => (k : Int) | none => -1
theorem atI_snoc (pre : List Nat) (k : Nat) : atI (pre ++ [k]) = (k : Int) := by simp [atI]
theorem atI_facts {ws pre post : List Nat} (h : elems ws = pre ++ post) : (∀ j, j ∈ pre → (j : Int) < atI pre + 1) ∧ 0 ≤ atI pre + 1 ∧ (∀ j, bit ws j = true → (j : Int) < atI pre + 1 → j ∈ pre) := by
  rcases List.eq_nil_or_concat pre with rfl | ⟨pre', k, rfl⟩
  · refine ⟨by simp, by simp [atI], fun j _ hj => ?_⟩
    simp [atI] at hj; omega
  · rw [List.concat_eq_append] at h ⊢
    rw [atI_snoc]
    rw [List.append_assoc] at h
    obtain ⟨h1, h2, h3⟩ := elems_split (k := k) (post := post) h
    refine ⟨fun j hj => ?_, by omega, fun j hb hj => ?_⟩
    · rcases List.mem_append.1 hj with hj | hj
      · have := h2 j hj; omega
      · simp at hj; omega
    · by_cases hlt : j < k
      · exact List.mem_append_left _ (h3 j hb hlt)
      · have : j = k := by omega
        subst this; simp
theorem nextV_at {ws pre post : List Nat} (h : elems ws = pre ++ post) : nextV ws (atI pre + 1) = .tuple #[I (max (hdI post) 0), .bool (decide (0 ≤ hdI post))] := by
  obtain ⟨h1, h2, h3⟩ := atI_facts h
  unfold nextV
  rw [nxI_elems h _ h1 h2 h3]
theorem atI_rng {ws pre post : List Nat} (h : elems ws = pre ++ post) (hl : ws.length ≤ 16384) : -1 ≤ atI pre ∧ atI pre < 1048576 := by
  have h0 := (atI_facts h).2.1
  refine ⟨by omega, ?_⟩
  rcases List.eq_nil_or_concat pre with rfl | ⟨pre', k, rfl⟩
  · simp [atI]
  · rw [List.concat_eq_append] at h ⊢
    rw [atI_snoc]
    have hb := bit_lt (mem_elems.1 (by rw [h]; simp : k ∈ elems ws))
    omega

/-! ### As the rows want it -/
theorem Ret.calls {P : Program} {f : FuncId} {vs : List Value} {w : World} (h : Ret P f vs w (fun v w' => v = .bool true ∧ Kp [] w w')) : Calls P f ⟨vs⟩ w (fun e w' => e = .returned (.bool true) ∧ RowKit.Below w.heap.size w w') :=
  h.2.mono fun _ _ ⟨_, he, hv, kp⟩ => ⟨by rw [he, hv], kp.below⟩
theorem wf64 {x : Int} (h : (Lit.int .i64 x).wf = true) : -9223372036854775808 ≤ x ∧ x ≤ 9223372036854775807 := by
  simpa [Lit.wf, IntKind.min, IntKind.max, IntKind.signed, IntKind.bits] using h
theorem IsRow.ints {w : World} {a : Option Addr} {len cap : Nat} {zs : List Int} (h : IsRow .i64 w a len cap zs) : ReadS w a ((zs.take len).map I) ∧ (zs.take len).length = len ∧ ∀ x ∈ zs.take len, -9223372036854775808 ≤ x ∧ x ≤ 9223372036854775807 := by
  have hl := h.len_le
  refine ⟨?_, by simp; omega, fun x hx => ?_⟩
  · rw [List.map_take]; exact h.read.take len
  · obtain ⟨i, hi⟩ := List.getElem?_of_mem (List.mem_of_mem_take hx)
    have := h.rng64 i
    rw [List.getD_eq_getElem?_getD, hi] at this
    exact this
end Go.Vc
