/- The plain law: lev is a distance; one edit is at most 1. -/
import Derived.Test.YtghdpibdidfpbaaNmFlt
namespace Go.Vc
theorem lev_refl : ∀ a : List UInt8, lev a a = 0
  | [] => rfl
  | x :: a => by rw [lev_cons, lev_refl a]; simp
theorem lev_del (x : UInt8) (a b : List UInt8) : lev (x :: a) b ≤ lev a b + 1 := by
  cases b with
  | nil => rw [lev_nil', lev_nil']; simp
  | cons y b => rw [lev_cons]; omega
theorem lev_ins (y : UInt8) (a b : List UInt8) : lev a (y :: b) ≤ lev a b + 1 := by
  cases a with
  | nil => rw [lev_nil, lev_nil]; simp
  | cons x a => rw [lev_cons]; omega
theorem lev_sub (x y : UInt8) (a b : List UInt8) : lev (x :: a) (y :: b) ≤ lev a b + if x = y then 0 else 1 := by rw [lev_cons]; omega
theorem lev_symm : ∀ n (a b : List UInt8), a.length + b.length ≤ n → lev a b = lev b a
  | _, [], b, _ => by rw [lev_nil, lev_nil']
  | _, _ :: _, [], _ => by rw [lev_nil, lev_nil']
  | 0, _ :: _, _ :: _, h => by simp at h
  | n + 1, x :: a, y :: b, h => by
    simp only [List.length_cons] at h
    rw [lev_cons, lev_cons, lev_symm n a b (by omega), lev_symm n a (y :: b) (by simp; omega), lev_symm n (x :: a) b (by simp; omega)]
    have : (if x = y then 0 else 1) = (if y = x then 0 else 1 : Nat) := by
      by_cases hxy : x = y
      · subst hxy; rfl
      · rw [if_neg hxy, if_neg (fun h => hxy h.symm)]
    omega
theorem lev_len : ∀ (a b : List UInt8), a.length ≤ b.length + lev a b ∧ b.length ≤ a.length + lev a b
  | [], b => by rw [lev_nil]; simp
  | x :: a, [] => by rw [lev_nil']; simp
  | x :: a, y :: b => by
    have h1 := lev_len a b
    have h2 := lev_len a (y :: b)
    have h3 := lev_len (x :: a) b
    rw [lev_cons]
    simp only [List.length_cons] at *
    split <;> omega
theorem lev_zero : ∀ (a b : List UInt8), lev a b = 0 → a = b
  | [], b, h => by rw [lev_nil] at h; exact (List.length_eq_zero_iff.1 h).symm
  | x :: a, [], h => by rw [lev_nil'] at h; simp at h
  | x :: a, y :: b, h => by
    rw [lev_cons] at h
    have h1 : lev a b + (if x = y then 0 else 1) = 0 := by omega
    by_cases hxy : x = y
    · rw [if_pos hxy] at h1
      rw [hxy, lev_zero a b (by omega)]
    · rw [if_neg hxy] at h1; omega
theorem lev_tri : ∀ n (a b c : List UInt8), a.length + b.length + c.length ≤ n → lev a b ≤ lev a c + lev c b
  | n, [], b, c, _ => by
    have h1 := lev_len c b
    rw [lev_nil, lev_nil]; omega
  | n, x :: a, [], c, _ => by
    have h1 := lev_len (x :: a) c
    rw [lev_nil', lev_nil']; omega
  | n, x :: a, y :: b, [], _ => by
    have h1 := lev_le (x :: a) (y :: b)
    rw [lev_nil', lev_nil]; omega
  | 0, x :: a, y :: b, z :: c, h => by simp at h
  | n + 1, x :: a, y :: b, z :: c, h => by
    simp only [List.length_cons] at h
    have i1 := lev_tri n a (y :: b) (z :: c) (by simp; omega)
    have i2 := lev_tri n (x :: a) b (z :: c) (by simp; omega)
    have i3 := lev_tri n a b c (by omega)
    have i4 := lev_tri n a (y :: b) c (by simp; omega)
    have i5 := lev_tri n (x :: a) b c (by simp; omega)
    have i6 := lev_tri n (x :: a) (y :: b) c (by simp; omega)
    have d1 := lev_del x a (y :: b)
    have d2 := lev_ins y (x :: a) b
    have d3 := lev_sub x y a b
    have e1 := lev_cons x z a c
    have e2 := lev_cons z y c b
    have ht : (if x = y then 0 else 1 : Nat) ≤ (if x = z then 0 else 1) + (if z = y then 0 else 1) := by
      by_cases h1 : x = z
      · by_cases h2 : z = y
        · simp [h1, h2]
        · simp [h1, h2]
      · simp [h1]; split <;> omega
    generalize lev (x :: a) (y :: b) = L at *
    generalize (if x = y then 0 else 1 : Nat) = t1 at *
    generalize (if x = z then 0 else 1 : Nat) = t2 at *
    generalize (if z = y then 0 else 1 : Nat) = t3 at *
    omega
theorem lev_edit_ins (c : UInt8) : ∀ (p q : List UInt8), lev (p ++ c :: q) (p ++ q) ≤ 1
  | [], q => by have := lev_del c q q; rw [lev_refl] at this; exact this
  | x :: p, q => by
    have := lev_sub x x (p ++ c :: q) (p ++ q)
    have h2 := lev_edit_ins c p q
    simp only [List.cons_append, if_true] at *
    omega
theorem lev_edit_sub (c d : UInt8) : ∀ (p q : List UInt8), lev (p ++ c :: q) (p ++ d :: q) ≤ 1
  | [], q => by have := lev_sub c d q q; rw [lev_refl] at this; simp only [List.nil_append]; split at this <;> omega
  | x :: p, q => by
    have := lev_sub x x (p ++ c :: q) (p ++ d :: q)
    have h2 := lev_edit_sub c d p q
    simp only [List.cons_append, if_true] at *
    omega

theorem dist_short {a b : List UInt8} (ha : a.length ≤ 256) (hb : b.length ≤ 256) : dist a b = lev a.reverse b.reverse := by
  unfold dist; rw [List.take_of_length_le ha, List.take_of_length_le hb]
theorem dist_symm (a b : List UInt8) : dist a b = dist b a := lev_symm _ _ _ (Nat.le_refl _)
theorem dist_tri (a b c : List UInt8) : dist a b ≤ dist a c + dist c b := lev_tri _ _ _ _ (Nat.le_refl _)
theorem dist_zero {a b : List UInt8} (ha : a.length ≤ 256) (hb : b.length ≤ 256) : dist a b = 0 ↔ a = b := by
  rw [dist_short ha hb]
  constructor
  · intro h; exact List.reverse_inj.1 (lev_zero _ _ h)
  · rintro rfl; exact lev_refl _
theorem dist_len {a b : List UInt8} (ha : a.length ≤ 256) (hb : b.length ≤ 256) : a.length ≤ b.length + dist a b ∧ b.length ≤ a.length + dist a b ∧ dist a b ≤ max a.length b.length := by
  rw [dist_short ha hb]
  have h1 := lev_len a.reverse b.reverse
  have h2 := lev_le a.reverse b.reverse
  simp only [List.length_reverse] at h1 h2
  exact ⟨h1.1, h1.2, h2⟩
theorem dist_ins (c : UInt8) (p q : List UInt8) (h : (p ++ c :: q).length ≤ 256) : dist (p ++ q) (p ++ c :: q) ≤ 1 := by
  rw [dist_symm, dist_short h (by simp at h ⊢; omega)]
  simp only [List.reverse_append, List.reverse_cons, List.append_assoc, List.singleton_append, List.cons_append, List.nil_append]
  exact lev_edit_ins _ _ _
theorem dist_del (c : UInt8) (p q : List UInt8) (h : (p ++ c :: q).length ≤ 256) : dist (p ++ c :: q) (p ++ q) ≤ 1 := by
  rw [dist_symm]; exact dist_ins c p q h
theorem dist_sub (c d : UInt8) (p q : List UInt8) (h : (p ++ c :: q).length ≤ 256) : dist (p ++ c :: q) (p ++ d :: q) ≤ 1 := by
  rw [dist_short h (by simp at h ⊢; omega)]
  simp only [List.reverse_append, List.reverse_cons, List.append_assoc, List.singleton_append, List.cons_append, List.nil_append]
  exact lev_edit_sub _ _ _ _

/-- likenesses of short texts: from 0 to 1, and 1 at no distance alone -/
def likeOk (d n : Nat) : Bool :=
  (FloatKind.f64.format.order (likeF d n) 0 == some .gt || FloatKind.f64.format.order (likeF d n) 0 == some .eq) &&
  (FloatKind.f64.format.order (likeF d n) 4607182418800017408 == some .lt || FloatKind.f64.format.order (likeF d n) 4607182418800017408 == some .eq) &&
  ((FloatKind.f64.format.order (likeF d n) 4607182418800017408 == some .eq) == decide (d = 0))
theorem likeOk_all : ∀ n d, n ≤ 60 → d ≤ n → likeOk d n = true := by
  have h : ∀ n : Fin 61, ∀ d : Fin 61, d.1 ≤ n.1 → likeOk d.1 n.1 = true := by decide +kernel
  intro n d hn hd
  exact h ⟨n, by omega⟩ ⟨d, by omega⟩ hd
end Go.Vc
