/- What came in: slices of structs, read cell by cell. -/
import Derived.Test.YtdfkhnhmcanncaaDoorVcArg
import Derived.Deep.Slices
import Derived.ChangeArms
namespace Go.Vc
open Go
variable {H : Type} {enc : TypeId × Value → H} {P : Program} {w : World} {base : Nat} {spare : Nat → Bool} {held : Bool}

/-- one cell that is an integer -/
theorem trod_int {t : TypeId} {k : IntKind} {fuel : Nat} {v : Value} {x : DataW H × List MemPlace} (ht : P.underlying t = some (.int k)) (h : DataW.trod enc P w base spare held fuel t [v] = some x) : ∃ z, v = .int k z ∧ (Lit.int k z).wf = true := by
  cases fuel with
  | zero => simp [DataW.trod] at h
  | succ n =>
    unfold DataW.trod at h
    rw [ht] at h
    cases v <;> simp at h
    obtain ⟨⟨rfl, hw⟩, _⟩ := h
    exact ⟨_, rfl, hw⟩
theorem trod_bool {t : TypeId} {fuel : Nat} {v : Value} {x : DataW H × List MemPlace} (ht : P.underlying t = some .bool) (h : DataW.trod enc P w base spare held fuel t [v] = some x) : ∃ z, v = .bool z := by
  cases fuel with
  | zero => simp [DataW.trod] at h
  | succ n =>
    unfold DataW.trod at h
    rw [ht] at h
    cases v <;> simp at h
    exact ⟨_, rfl⟩
theorem trod_str {t : TypeId} {fuel : Nat} {v : Value} {x : DataW H × List MemPlace} (ht : P.underlying t = some .string) (h : DataW.trod enc P w base spare held fuel t [v] = some x) : ∃ s : ByteArray, v = .string s ∧ s.size ≤ maxLen ∧ x.1 = .lit (.string s.data.toList) := by
  cases fuel with
  | zero => simp [DataW.trod] at h
  | succ n =>
    unfold DataW.trod at h
    rw [ht] at h
    cases v <;> simp at h
    obtain ⟨h1, h2⟩ := h
    exact ⟨_, rfl, h1, by rw [← h2]⟩
/-- a slice of structs of m cells: its elements' cells; each element has its own reading -/
theorem trod_recs {t e : TypeId} {m : Nat} {fuel : Nat} {a : Option Addr} {len cap : Nat} {x : DataW H × List MemPlace} (ht : P.underlying t = some (.slice e)) (hm : P.cellsOf e = m) (h : DataW.trod enc P w base spare held fuel t [.slice a len cap] = some x) :
    ∃ (n : Nat) (Cs : List (List Value)) (D : List (DataW H)), Cs.length = len ∧ D.length = len ∧ ReadS w a Cs.flatten ∧ (∀ (i : Nat) (cs : List Value), Cs[i]? = some cs → cs.length = m ∧ ∃ (d : DataW H) (p : List MemPlace), D[i]? = some d ∧ DataW.trod enc P w base spare held n e cs = some (d, p)) ∧ (x.1 = .nil ∧ D = [] ∨ ∃ sp, x.1 = .slice D sp) ∧ len ≤ cap ∧ cap ≤ maxLen := by
  rcases Go.Deep.open_slice ht h with ⟨hc, rfl⟩ | ⟨a', len', cap', mm, n, D, Pl, hc, _, hl, hcap, hmm, rfl, hx⟩
  · simp at hc
    obtain ⟨rfl, rfl, rfl⟩ := hc
    exact ⟨0, [], [], rfl, rfl, rfl, fun i cs h => by simp at h, .inl ⟨rfl, rfl⟩, Nat.le_refl _, Nat.zero_le _⟩
  · simp at hc
    obtain ⟨rfl, rfl, rfl⟩ := hc
    have hle : len ≤ mm := by rw [hmm]; split <;> omega
    rw [hm] at hx
    have key : ∀ k, k ≤ len → ∃ Cs : List (List Value), Cs.length = k ∧ ReadS w (some a') Cs.flatten ∧ Cs.flatten.length = k * m ∧ ∀ (i : Nat) (cs : List Value), Cs[i]? = some cs → cs.length = m ∧ DataW.trod enc P w base spare held n e cs = some (D i, Pl i) := by
      intro k
      induction k with
      | zero => intro _; exact ⟨[], rfl, (fun i v h => by simp at h), by simp, fun i cs h => by simp at h⟩
      | succ k ih =>
        intro hk
        obtain ⟨Cs, h1, h2, h3, h4⟩ := ih (by omega)
        obtain ⟨cs', g1, g2⟩ := hx k (by omega)
        obtain ⟨_, g3, g4⟩ := World.cells?_some g1
        refine ⟨Cs ++ [cs'], by simp [h1], fun i v hv => ?_, ?_, fun i cs hcs => ?_⟩
        · rw [List.flatten_append] at hv
          by_cases hi : i < k * m
          · rw [List.getElem?_append_left (by omega)] at hv
            exact h2 i v hv
          · rw [List.getElem?_append_right (by omega), h3] at hv
            simp at hv
            have hlt : i - k * m < m := by have := (List.getElem?_eq_some_iff.1 hv).1; omega
            have := g4 _ hlt
            rw [hv] at this
            rw [← this]
            have hi' : k * m ≤ i := by omega
            have ea : (a'.add (k * m)).add (i - k * m) = a'.add i := by
              generalize k * m = z at hi'
              unfold Addr.add
              by_cases h0 : z = 0
              · subst h0; simp
              · by_cases h1 : i - z = 0
                · have : i = z := by omega
                  subst this; simp
                · rw [if_neg h0, if_neg h1, if_neg (by omega)]
                  simp; omega
            rw [ea]
        · rw [List.flatten_append, List.length_append, h3]; simp [g3, Nat.succ_mul]
        · by_cases hi : i < k
          · rw [List.getElem?_append_left (by omega)] at hcs
            exact h4 i cs hcs
          · have hik : i = k := by
              have := (List.getElem?_eq_some_iff.1 hcs).1
              simp [h1] at this; omega
            subst hik
            rw [List.getElem?_append_right (by omega), h1] at hcs
            simp at hcs; subst hcs
            exact ⟨g3, g2⟩
    obtain ⟨Cs, h1, h2, h3, h4⟩ := key len (Nat.le_refl _)
    refine ⟨n, Cs, (List.range len).map D, h1, by simp, h2, fun i cs hcs => ?_, .inr ⟨_, rfl⟩, hl, hcap⟩
    have hi : i < len := by rw [← h1]; exact (List.getElem?_eq_some_iff.1 hcs).1
    obtain ⟨g1, g2⟩ := h4 i cs hcs
    exact ⟨g1, D i, Pl i, by simp [hi], g2⟩
theorem flatten_of {α β : Type} {f : α → List β} : ∀ (Cs : List (List β)), (∀ cs ∈ Cs, ∃ a, cs = f a) → ∃ l : List α, Cs = l.map f
  | [], _ => ⟨[], rfl⟩
  | c :: r, h => by
    obtain ⟨a, ha⟩ := h c (by simp)
    obtain ⟨l, hl⟩ := flatten_of r (fun cs hcs => h cs (by simp [hcs]))
    exact ⟨a :: l, by rw [ha, hl]; rfl⟩
end Go.Vc
