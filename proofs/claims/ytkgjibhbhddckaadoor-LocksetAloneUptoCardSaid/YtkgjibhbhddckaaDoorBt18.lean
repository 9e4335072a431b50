/- bits: families of sets that share nothing; BitsAlgebra. -/
import Derived.Test.YtkgjibhbhddckaaDoorBt17
import Derived.Test.YtkgjibhbhddckaaDoorBt16
namespace Go.Vc
open Go Go.Proofs
set_option maxRecDepth 10000
variable {w : World}

/-- a set's place and words -/
structure S4 where
  p : Nat
  ws : List Nat
  ad : Option Addr
  cap : Nat
def S4.blks (s : S4) : List Nat := s.p :: blkOf s.ad
def S4.At (w : World) (s : S4) : Prop := SetAt w s.p s.ws s.ad s.cap
/-- sets that share nothing -/
structure Fam (w : World) (L : List S4) : Prop where
  all : ∀ s ∈ L, s.At w
  apart : L.Pairwise fun s t => ∀ b, b ∈ s.blks → b ∉ t.blks
theorem Fam.kp {w' : World} {L : List S4} (h : Fam w L) {S : List Nat} (hk : Kp S w w') (hd : ∀ s ∈ L, ∀ b, b ∈ s.blks → b ∉ S) : Fam w' L := ⟨fun s hs => (h.all s hs).kp hk (hd s hs), h.apart⟩
theorem Fam.kp0 {w' : World} {L : List S4} (h : Fam w L) (hk : Kp [] w w') : Fam w' L := h.kp hk (by simp)
theorem Fam.sm {w' : World} {L : List S4} (h : Fam w L) (hs : Sm w w') : Fam w' L := h.kp0 (hs.kp [])
theorem Fam.nil : Fam w [] := ⟨by simp, List.Pairwise.nil⟩
theorem Fam.new {w' : World} {L : List S4} (h : Fam w L) {p : Nat} {ws : List Nat} {ad : Option Addr} {cap : Nat} (k : NewSet w p w' ws ad cap) : Fam w' (L ++ [⟨p, ws, ad, cap⟩]) := by
  have h' := h.kp0 k.kp
  refine ⟨fun s hs => ?_, ?_⟩
  · rcases List.mem_append.1 hs with h1 | h1
    · exact h'.all s h1
    · simp at h1; subst h1; exact k.at_
  · rw [List.pairwise_append]
    refine ⟨h.apart, by simp, fun s hs t ht b hb hb2 => ?_⟩
    simp at ht; subst ht
    have h1 := (h.all s hs).lt b hb
    have h2 := k.new b hb2
    omega
theorem Fam.to {w' : World} {L1 L2 : List S4} {s : S4} {ws : List Nat} {ad : Option Addr} {cap : Nat} (h : Fam w (L1 ++ s :: L2)) (k : SetTo w s.p s.ad w' ws ad cap) : Fam w' (L1 ++ ⟨s.p, ws, ad, cap⟩ :: L2) := by
  have ha := h.apart
  rw [List.pairwise_append, List.pairwise_cons] at ha
  obtain ⟨a1, ⟨a2, a3⟩, a4⟩ := ha
  have sub : ∀ b, b ∈ (S4.blks ⟨s.p, ws, ad, cap⟩) → b ∈ s.blks ∨ w.heap.size ≤ b := fun b hb => by
    rcases List.mem_cons.1 hb with rfl | hb
    · exact .inl (by simp [S4.blks])
    · rcases k.new b hb with h1 | h1
      · exact .inl (by simp [S4.blks, h1])
      · exact .inr h1
  have lt : ∀ t ∈ L1 ++ s :: L2, ∀ b, b ∈ t.blks → b < w.heap.size := fun t ht b hb => (h.all t ht).lt b hb
  refine ⟨fun t ht => ?_, ?_⟩
  · rcases List.mem_append.1 ht with h1 | h1
    · exact (h.all t (by simp [h1])).kp k.kp (fun b hb hb2 => a4 t h1 s (by simp) b hb hb2)
    · rcases List.mem_cons.1 h1 with rfl | h1
      · exact k.at_
      · exact (h.all t (by simp [h1])).kp k.kp (fun b hb hb2 => a2 t h1 b hb2 hb)
  · rw [List.pairwise_append, List.pairwise_cons]
    refine ⟨a1, ⟨fun t ht b hb hb2 => ?_, a3⟩, fun t ht u hu b hb hb2 => ?_⟩
    · rcases sub b hb with h1 | h1
      · exact a2 t ht b h1 hb2
      · have := lt t (by simp [ht]) b hb2; omega
    · rcases List.mem_cons.1 hu with rfl | hu
      · rcases sub b hb2 with h1 | h1
        · exact a4 t ht s (by simp) b hb h1
        · have := lt t (by simp [ht]) b hb; omega
      · exact a4 t ht u (by simp [hu]) b hb hb2
theorem Fam.two {L : List S4} (h : Fam w L) {s t : S4} {i j : Nat} (hi : L[i]? = some s) (hj : L[j]? = some t) (hne : i ≠ j) : Apart s.p s.ad t.p t.ad := by
  have ha := h.apart
  intro b hb hb2
  obtain ⟨h1, e1⟩ := List.getElem?_eq_some_iff.1 hi
  obtain ⟨h2, e2⟩ := List.getElem?_eq_some_iff.1 hj
  rw [List.pairwise_iff_getElem] at ha
  rcases Nat.lt_or_gt_of_ne hne with hlt | hlt
  · exact ha i j h1 h2 hlt b (by rw [e1]; exact hb2) (by rw [e2]; exact hb)
  · exact ha j i h2 h1 hlt b (by rw [e2]; exact hb) (by rw [e1]; exact hb2)
theorem Fam.get {L : List S4} (h : Fam w L) {s : S4} (i : Nat) (hi : L[i]? = some s) : SetAt w s.p s.ws s.ad s.cap := h.all s (List.mem_of_getElem? hi)

end Go.Vc
