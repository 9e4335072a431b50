/- What a slice of numbers that came in reads as. -/
import Derived.Test.YtkgjibhbhddckaaDoorVcApp
import Derived.OpenShut
namespace Go.Vc
open Go
/-- what the frame tells of a slice of integers that came in: nil; or a row of 'cap' cells, the numbers 'zs' (the first 'len' are its elements), each fitting its kind -/
def IsRow (k : IntKind) (w : World) (a : Option Addr) (len cap : Nat) (zs : List Int) : Prop :=
  (a = none ∧ len = 0 ∧ cap = 0 ∧ zs = []) ∨
  ∃ x, a = some x ∧ len ≤ cap ∧ cap ≤ maxLen ∧ zs.length = cap ∧ (∀ i, i < zs.length → w.cell? (x.add i) = some (.int k (zs.getD i 0))) ∧ ∀ n ∈ zs, (Lit.int k n).wf = true
theorem IsRow.read {k : IntKind} {w : World} {a : Option Addr} {len cap : Nat} {zs : List Int} (h : IsRow k w a len cap zs) : ReadS w a (zs.map (Value.int k)) := by
  rcases h with ⟨rfl, _, _, rfl⟩ | ⟨x, rfl, _, _, _, hc, _⟩
  · rfl
  · intro i v hv
    have hi : i < zs.length := by have := (List.getElem?_eq_some_iff.1 hv).1; simpa using this
    rw [hc i hi]
    simp [hi] at hv
    subst hv
    simp [List.getD_eq_getElem?_getD, hi]
theorem IsRow.len_le {k : IntKind} {w : World} {a : Option Addr} {len cap : Nat} {zs : List Int} (h : IsRow k w a len cap zs) : len ≤ zs.length ∧ zs.length = cap ∧ cap ≤ 9223372036854775807 := by
  rcases h with ⟨_, rfl, rfl, rfl⟩ | ⟨x, _, h1, h2, h3, _⟩
  · simp
  · simp only [maxLen] at h2; omega
theorem IsRow.rng64 {w : World} {a : Option Addr} {len cap : Nat} {zs : List Int} (h : IsRow .i64 w a len cap zs) (i : Nat) : -9223372036854775808 ≤ zs.getD i 0 ∧ zs.getD i 0 ≤ 9223372036854775807 := by
  rcases h with ⟨_, _, _, rfl⟩ | ⟨x, _, _, _, _, _, hw⟩
  · simp
  · rw [List.getD_eq_getElem?_getD]; exact range_i64 hw i
theorem IsRow.bytes {w : World} {a : Option Addr} {len cap : Nat} {zs : List Int} (h : IsRow .u8 w a len cap zs) : ∃ bs : List UInt8, zs = bs.map fun c => (c.toNat : Int) := by
  have hw : ∀ n ∈ zs, 0 ≤ n ∧ n ≤ 255 := by
    rcases h with ⟨_, _, _, rfl⟩ | ⟨x, _, _, _, _, _, hw⟩
    · simp
    · exact fun n hn => bounds_u8 (hw n hn)
  refine ⟨zs.map fun n => UInt8.ofNat n.toNat, ?_⟩
  rw [List.map_map]
  conv => lhs; rw [show zs = zs.map id from by simp]
  apply List.map_congr_left
  intro n hn
  have := hw n hn
  simp only [id, Function.comp, UInt8.toNat_ofNat']
  omega
end Go.Vc
