/- bits: what the words answer and what the lists answer is one. -/
import Derived.Test.YtdfkhnhmcanncaaDoorBt38
import Derived.Test.YtdfkhnhmcanncaaDoorBt41
namespace Go.Vc
open Go Go.Proofs
set_option maxRecDepth 10000

theorem find_min {l : List Nat} {p : Nat → Bool} {x : Nat} (hs : l.Pairwise (· < ·)) (h : l.find? p = some x) : ∀ y ∈ l, p y = true → x ≤ y := by
  induction l with
  | nil => simp at h
  | cons z r ih =>
    intro y hy hp
    rw [List.find?_cons] at h
    obtain ⟨h1, h2⟩ := List.pairwise_cons.1 hs
    cases hz : p z with
    | true =>
      rw [hz] at h
      simp at h; subst h
      rcases List.mem_cons.1 hy with rfl | hy
      · exact Nat.le_refl _
      · exact Nat.le_of_lt (h1 y hy)
    | false =>
      rw [hz] at h
      simp at h
      rcases List.mem_cons.1 hy with rfl | hy
      · rw [hz] at hp; cases hp
      · exact ih h2 h y hy hp
theorem nextV_eq (ws : List Nat) (n : Int) : nextV ws n = nextL (elems ws) n := by
  unfold nextV nextL nxI
  rcases nxt_cases ws n.toNat with ⟨h1, h2⟩ | ⟨k, h1, h2, h3, h4⟩
  · have hf : (elems ws).find? (fun (x : Nat) => decide (n ≤ (x : Int))) = none := List.find?_eq_none.2 fun x hx => by
      have hb := mem_elems.1 hx
      by_cases hle : n.toNat ≤ x
      · rw [h2 x hle] at hb; cases hb
      · simp; omega
    rw [h1, hf]; rfl
  · cases hf : (elems ws).find? (fun (x : Nat) => decide (n ≤ (x : Int))) with
    | none =>
      have := List.find?_eq_none.1 hf k (mem_elems.2 h3)
      simp at this; omega
    | some x =>
      have hp : n ≤ (x : Int) := by simpa using List.find?_some hf
      have hm := mem_elems.1 (List.mem_of_find?_eq_some hf)
      have hle := find_min (elems_sorted ws) hf k (mem_elems.2 h3) (by simp; omega)
      have hxk : x = k := by
        by_cases hlt : x < k
        · rw [h4 x (by omega) hlt] at hm; cases hm
        · omega
      subst hxk
      rw [h1]
      have e1 : max ((x : Nat) : Int) 0 = x := by omega
      simp only [e1]
      congr 3
theorem hasB_eq (ws : List Nat) (n : Int) : hasB ws n = decide (0 ≤ n ∧ n.toNat ∈ elems ws) := by
  unfold hasB
  rw [Bool.eq_iff_iff, Bool.and_eq_true, decide_eq_true_eq, decide_eq_true_eq, mem_elems]
section
variable {ws vs : List Nat}
theorem elems_keepW (ws vs : List Nat) (hr : Ris (elems ws)) (hr2 : Ris (elems vs)) : elems (keepW ws vs) = mergeL (elems ws) (elems vs) true false false :=
  sorted_ext (elems_sorted _) (ris_mergeL hr hr2 _ _ _).sorted fun x => by
    rw [mem_mergeL, mem_elems, bit_keepW]
    by_cases h : bit vs x = true <;> by_cases h2 : bit ws x = true <;> simp [h, h2, mem_elems]
theorem elems_dropW (ws : List Nat) {vs : List Nat} (hv : WOk vs) (hr : Ris (elems ws)) (hr2 : Ris (elems vs)) : elems (dropW ws vs) = mergeL (elems ws) (elems vs) false true false :=
  sorted_ext (elems_sorted _) (ris_mergeL hr hr2 _ _ _).sorted fun x => by
    rw [mem_mergeL, mem_elems, bit_dropW hv]
    by_cases h : bit vs x = true <;> by_cases h2 : bit ws x = true <;> simp [h, h2, mem_elems]
theorem elems_turnW (ws vs : List Nat) (hr : Ris (elems ws)) (hr2 : Ris (elems vs)) : elems (turnW ws vs) = mergeL (elems ws) (elems vs) false true true :=
  sorted_ext (elems_sorted _) (ris_mergeL hr hr2 _ _ _).sorted fun x => by
    rw [mem_mergeL, mem_elems, bit_turnW]
    by_cases h : bit vs x = true <;> by_cases h2 : bit ws x = true <;> simp [h, h2, mem_elems]
theorem eqW_eq (ht : Tr ws) (hv : Tr vs) (hw : WOk ws) (hk : WOk vs) : decide (ws = vs) = decide (elems ws = elems vs) := by
  rw [Bool.eq_iff_iff, decide_eq_true_eq, decide_eq_true_eq]
  refine ⟨fun h => by rw [h], fun h => tr_ext ht hv hw hk fun k => ?_⟩
  rw [Bool.eq_iff_iff, ← mem_elems, ← mem_elems, h]
theorem withinW_eq (ht : Tr ws) (hw : WOk ws) (hk : WOk vs) : withinW ws vs = (elems ws).all fun x => decide (x ∈ elems vs) := by
  rw [Bool.eq_iff_iff, withinW_iff hw hk ht, List.all_eq_true]
  refine ⟨fun h x hx => ?_, fun h j hj => ?_⟩
  · rw [decide_eq_true_eq, mem_elems]; exact h x (mem_elems.1 hx)
  · have := h j (mem_elems.2 hj)
    rwa [decide_eq_true_eq, mem_elems] at this
theorem meetsW_eq (hw : WOk ws) : meetsW ws vs = (elems ws).any fun x => decide (x ∈ elems vs) := by
  rw [Bool.eq_iff_iff, meetsW_iff hw, List.any_eq_true]
  refine ⟨fun ⟨j, h1, h2⟩ => ⟨j, mem_elems.2 h1, by rw [decide_eq_true_eq, mem_elems]; exact h2⟩, fun ⟨j, h1, h2⟩ => ⟨j, mem_elems.1 h1, ?_⟩⟩
  rwa [decide_eq_true_eq, mem_elems] at h2
/-- a list within another, both rising: longer or alike -/
theorem sorted_sub {l m : List Nat} (hl : l.Pairwise (· < ·)) (hm : m.Pairwise (· < ·)) (h : ∀ x ∈ l, x ∈ m) : l.length < m.length ↔ ∃ x ∈ m, ¬ x ∈ l := by
  have e : l = m.filter (fun x => decide (x ∈ l)) := sorted_ext hl (hm.filter _) fun x => by
    rw [List.mem_filter, decide_eq_true_eq]
    exact ⟨fun hx => ⟨h x hx, hx⟩, fun hx => hx.2⟩
  have hlen : l.length = (m.filter (fun x => decide (x ∈ l))).length := congrArg List.length e
  rw [hlen]
  constructor
  · intro hlt
    by_cases hx : ∃ x ∈ m, ¬ x ∈ l
    · exact hx
    · have : m.filter (fun x => decide (x ∈ l)) = m := List.filter_eq_self.2 fun x hxm => by
        rw [decide_eq_true_eq]
        exact Decidable.by_contra fun hn => hx ⟨x, hxm, hn⟩
      rw [this] at hlt; omega
  · rintro ⟨x, hx, hn⟩
    have h1 := List.length_filter_le (fun x => decide (x ∈ l)) m
    by_cases heq : (m.filter (fun x => decide (x ∈ l))).length = m.length
    · have := List.length_filter_eq_length_iff.1 heq x hx
      rw [decide_eq_true_eq] at this
      exact absurd this hn
    · omega
/-! ### Join -/
theorem join_step {p : Nat} {F : Nat → List Nat} {ws0 : List Nat} {qs : List Nat} (hF : ∀ q ∈ qs, q ≠ p → WOk (F q) ∧ Tr (F q)) : ∀ (us : List Nat) (b : Bool), WOk us → Tr us → (∀ j, bit ws0 j = true → bit us j = true) → (b = true ↔ ∃ j, bit us j = true ∧ bit ws0 j = false) →
    WOk (qs.foldl (joinStep p F) (us, b)).1 ∧ Tr (qs.foldl (joinStep p F) (us, b)).1 ∧ (∀ j, bit (qs.foldl (joinStep p F) (us, b)).1 j = true ↔ bit us j = true ∨ ∃ q ∈ qs, q ≠ p ∧ bit (F q) j = true) ∧
    ((qs.foldl (joinStep p F) (us, b)).2 = true ↔ ∃ j, bit (qs.foldl (joinStep p F) (us, b)).1 j = true ∧ bit ws0 j = false) := by
  induction qs with
  | nil => exact fun us b h1 h2 h3 h4 => ⟨h1, h2, fun j => by simp, h4⟩
  | cons q r ih =>
    intro us b h1 h2 h3 h4
    have ih := ih (fun x hx => hF x (List.mem_cons_of_mem _ hx))
    rw [List.foldl_cons]
    obtain ⟨vs, hvs⟩ : ∃ vs, vs = if q = p then us else F q := ⟨_, rfl⟩
    have e : joinStep p F (us, b) q = (joinW us vs, b || moreN (growW us vs.length) vs vs.length) := by unfold joinStep; rw [hvs]
    have hv : WOk vs ∧ Tr vs := by
      rw [hvs]
      by_cases hq : q = p
      · rw [if_pos hq]; exact ⟨h1, h2⟩
      · rw [if_neg hq]; exact hF q (by simp) hq
    rw [e]
    obtain ⟨g1, g2, g3, g4⟩ := ih (joinW us vs) (b || moreN (growW us vs.length) vs vs.length) (h1.joinW hv.1) (tr_joinW h1 hv.1 h2 hv.2) (fun j hj => by rw [bit_joinW, h3 j hj]; rfl) (by
      rw [Bool.or_eq_true, h4, moreN_iff h1 hv.1]
      constructor
      · rintro (⟨j, a1, a2⟩ | ⟨j, a1, a2⟩)
        · exact ⟨j, by rw [bit_joinW, a1]; rfl, a2⟩
        · refine ⟨j, by rw [bit_joinW, a1, Bool.or_true], ?_⟩
          cases hb : bit ws0 j with
          | false => rfl
          | true => rw [h3 j hb] at a2; cases a2
      · rintro ⟨j, a1, a2⟩
        rw [bit_joinW, Bool.or_eq_true] at a1
        rcases a1 with a1 | a1
        · exact .inl ⟨j, a1, a2⟩
        · cases hu : bit us j with
          | true => exact .inl ⟨j, hu, a2⟩
          | false => exact .inr ⟨j, a1, hu⟩)
    refine ⟨g1, g2, fun j => ?_, g4⟩
    rw [g3, bit_joinW, Bool.or_eq_true]
    by_cases hu : bit us j = true
    · exact ⟨fun _ => .inl hu, fun _ => .inl (.inl hu)⟩
    by_cases hq : q = p
    · rw [hvs, if_pos hq]
      constructor
      · rintro ((h | h) | ⟨x, hx, h⟩)
        · exact absurd h hu
        · exact absurd h hu
        · exact .inr ⟨x, List.mem_cons_of_mem _ hx, h⟩
      · rintro (h | ⟨x, hx, hne, h⟩)
        · exact absurd h hu
        · rcases List.mem_cons.1 hx with rfl | hx
          · exact absurd hq hne
          · exact .inr ⟨x, hx, hne, h⟩
    · rw [hvs, if_neg hq]
      constructor
      · rintro ((h | h) | ⟨x, hx, h⟩)
        · exact absurd h hu
        · exact .inr ⟨q, by simp, hq, h⟩
        · exact .inr ⟨x, List.mem_cons_of_mem _ hx, h⟩
      · rintro (h | ⟨x, hx, hne, h⟩)
        · exact absurd h hu
        · rcases List.mem_cons.1 hx with rfl | hx
          · exact .inl (.inr h)
          · exact .inr ⟨x, hx, hne, h⟩
/-- what Join answers and leaves, and what the document's does -/
theorem join_eq {p : Nat} {F G : Nat → List Nat} {ws : List Nat} {qs gs : List Nat} (hw : WOk ws) (ht : Tr ws) (hF : ∀ q ∈ qs, q ≠ p → WOk (F q) ∧ Tr (F q)) (hr : Ris (elems ws)) (hG : ∀ q ∈ gs, Ris (G q))
    (h : ∀ x, ¬ x ∈ elems ws → ((∃ q ∈ qs, q ≠ p ∧ x ∈ elems (F q)) ↔ ∃ q ∈ gs, x ∈ G q)) :
    Tr (qs.foldl (joinStep p F) (ws, false)).1 ∧ elems (qs.foldl (joinStep p F) (ws, false)).1 = joinL G gs (elems ws) ∧ (qs.foldl (joinStep p F) (ws, false)).2 = decide ((elems ws).length < (joinL G gs (elems ws)).length) := by
  obtain ⟨g1, g2, g3, g4⟩ := join_step (ws0 := ws) hF ws false hw ht (fun _ h => h) (by
    constructor
    · intro h; cases h
    · rintro ⟨j, a1, a2⟩; rw [a1] at a2; cases a2)
  have hs := (ris_joinL hr hG).sorted
  have he : elems (qs.foldl (joinStep p F) (ws, false)).1 = joinL G gs (elems ws) := sorted_ext (elems_sorted _) hs fun x => by
    rw [mem_joinL, mem_elems, g3, ← mem_elems]
    by_cases hx : x ∈ elems ws
    · exact ⟨fun _ => .inl hx, fun _ => .inl hx⟩
    · have := h x hx
      simp only [mem_elems] at this hx ⊢
      constructor
      · rintro (h | h)
        · exact absurd h hx
        · exact .inr (this.1 h)
      · rintro (h | h)
        · exact absurd h hx
        · exact .inr (this.2 h)
  refine ⟨g2, he, ?_⟩
  rw [Bool.eq_iff_iff, g4, decide_eq_true_eq, sorted_sub (elems_sorted ws) hs (fun x hx => mem_joinL.2 (.inl hx)), ← he]
  constructor
  · rintro ⟨j, a1, a2⟩
    exact ⟨j, mem_elems.2 a1, fun hb => by rw [mem_elems] at hb; rw [hb] at a2; cases a2⟩
  · rintro ⟨j, a1, a2⟩
    refine ⟨j, mem_elems.1 a1, ?_⟩
    cases hb : bit ws j with
    | false => rfl
    | true => exact absurd (mem_elems.2 hb) a2
end
end Go.Vc
/- bits: what a place answers, be there a set or none. -/
namespace Go.Vc
open Go Go.Proofs
set_option maxRecDepth 10000
variable {w : World}

def el : Option Sl → List Nat
  | none => []
  | some s => elems s.ws
def wo : Option Sl → List Nat
  | none => []
  | some s => s.ws
section
variable {o o2 : Option Sl}
theorem SlAt.tabAway {s : Sl} (h : SlOk w s) : 0 ∉ slb (some s) := fun hb => by
  rcases List.mem_append.1 hb with hb | hb
  · exact h.set.far hb
  · exact h.ref.far hb
theorem el_len (h : SlAt w o) : (el o).length ≤ 1048576 := by
  cases o with
  | none => simp [el]
  | some s => exact (h s rfl).ris.len
theorem newS_nil (T : TypeId) : NewS w T w none 0 0 [] := ⟨ownS_nil _ _ _, Kp.refl _ _, by simp [blkOf]⟩
theorem ListO (hT : TabW w) (h : SlAt w o) : Ret Tryd.prog 13 [sv o] w (fun v w' => ∃ ad' cap', v = .slice ad' (el o).length cap' ∧ NewS w 3 w' ad' (el o).length cap' ((el o).map encI)) := by
  cases o with
  | none => exact List_nil hT
  | some s => exact List_ret hT (h s rfl).set
theorem refListO (h : SlAt w o) : Ret Tryd.prog 26 [rv o] w (fun v w' => ∃ ad' cap', v = .slice ad' (el o).length cap' ∧ NewS w 3 w' ad' (el o).length cap' ((el o).map encI)) := by
  cases o with
  | none => exact refList_nil.mono fun v w' ⟨h1, h2⟩ => ⟨none, 0, h1, by rw [h2]; exact newS_nil _⟩
  | some s =>
    have hl := (h s rfl).ris.len
    exact refList_ret (l := elems s.ws) (h s rfl).ref (by omega)
theorem WordsO (h : SlAt w o) : Ret Tryd.prog 24 [sv o] w (fun v w' => ∃ ad' cap', v = .slice ad' (wo o).length cap' ∧ NewS w 41 w' ad' (wo o).length cap' ((wo o).map U)) := by
  cases o with
  | none => exact Words_nil.mono fun v w' ⟨h1, h2⟩ => ⟨none, 0, h1, by rw [h2]; exact newS_nil _⟩
  | some s => exact Words_ret (h s rfl).set
theorem refWordsO (h : SlAt w o) : Ret Tryd.prog 25 [rv o] w (fun v w' => ∃ ad' cap', v = .slice ad' (wo o).length cap' ∧ NewS w 41 w' ad' (wo o).length cap' ((wo o).map U)) := by
  cases o with
  | none => exact refWords_nil.mono fun v w' ⟨h1, h2⟩ => ⟨none, 0, h1, by rw [h2]; exact newS_nil _⟩
  | some s =>
    have hs := h s rfl
    have e : refW (elems s.ws) = s.ws := by rw [refW_elems hs.set.ok]; exact hs.tr
    have := refWords_ret hs.ref (by have := hs.ris.len; omega) hs.ris.sorted hs.ris.lt
    rw [e] at this
    exact this
theorem AllO (hT : TabW w) (h : SlAt w o) : Ret Tryd.prog 17 [sv o] w (fun v w' => ∃ Fp, SeqIs w' v (0 :: Fp) (el o) ∧ Kp [] w w' ∧ ∀ b, b ∈ Fp → w.heap.size ≤ b) := by
  cases o with
  | none => exact All_nil hT
  | some s => exact All_ret hT (h s rfl).set
theorem LenO (h : SlAt w o) : Ret Tryd.prog 18 [sv o] w (fun v w' => v = I (el o).length ∧ w' = w) := by
  cases o with
  | none => exact Len_nil
  | some s => exact Len_ret (h s rfl).set
theorem refLenO (h : SlAt w o) : Ret Tryd.prog 56 [rv o] w (fun v w' => v = I (el o).length ∧ w' = w) := by
  cases o with
  | none => exact refLen_nil
  | some s => exact refLen_ret (h s rfl).ref
theorem HasO (h : SlAt w o) (n : Int) : Ret Tryd.prog 15 [sv o, I n] w (fun v w' => v = .bool (decide (0 ≤ n ∧ n.toNat ∈ el o)) ∧ w' = w) := by
  cases o with
  | none => exact (Has_nil n).mono fun v w' ⟨h1, h2⟩ => ⟨by rw [h1]; simp [el], h2⟩
  | some s => exact (Has_ret (h s rfl).set n).mono fun v w' ⟨h1, h2⟩ => ⟨by rw [h1, hasB_eq]; rfl, h2⟩
theorem refHasO (h : SlAt w o) (n : Int) : Ret Tryd.prog 83 [rv o, I n] w (fun v w' => v = .bool (decide (0 ≤ n ∧ n.toNat ∈ el o)) ∧ w' = w) := by
  cases o with
  | none => exact (refHas_nil n).mono fun v w' ⟨h1, h2⟩ => ⟨by rw [h1]; simp [el], h2⟩
  | some s => exact refHas_ret (h s rfl).ref (by have := (h s rfl).ris.len; omega) n
theorem NextO (hT : TabW w) (h : SlAt w o) {n : Int} (hn : -9223372036854775808 ≤ n ∧ n ≤ 9223372036854775807) : Ret Tryd.prog 14 [sv o, I n] w (fun v w' => v = nextL (el o) n ∧ w' = w) := by
  cases o with
  | none => exact Next_nil n
  | some s => exact (Next_ret hT (h s rfl).set hn).mono fun v w' ⟨h1, h2⟩ => ⟨by rw [h1, nextV_eq]; rfl, h2⟩
theorem refNextO (h : SlAt w o) (n : Int) : Ret Tryd.prog 82 [rv o, I n] w (fun v w' => v = nextL (el o) n ∧ w' = w) := by
  cases o with
  | none => exact refNext_nil n
  | some s => exact refNext_ret (h s rfl).ref (by have := (h s rfl).ris.len; omega) n
/-! ### Equal, Within, Meets -/
def both (f : List Nat → List Nat → Bool) : Option Sl → Option Sl → Bool
  | some s, some t => f (elems s.ws) (elems t.ws)
  | _, _ => false
def eqF (l m : List Nat) : Bool := decide (l = m)
def wiF (l m : List Nat) : Bool := l.all fun x => decide (x ∈ m)
def meF (l m : List Nat) : Bool := l.any fun x => decide (x ∈ m)
theorem both_none {f : List Nat → List Nat → Bool} (o : Option Sl) : both f o none = false := by cases o <;> rfl
theorem EqualO (h : SlAt w o) (k : SlAt w o2) : Ret Tryd.prog 53 [sv o, sv o2] w (fun v w' => v = .bool (both eqF o o2) ∧ Sm w w') := by
  cases o with
  | none => exact Equal_nil _
  | some s =>
    cases o2 with
    | none => exact Equal_nil2 (h s rfl).set
    | some t => exact (Equal_ret (h s rfl).set (k t rfl).set).mono fun v w' ⟨h1, h2⟩ => ⟨by rw [h1, eqW_eq (h s rfl).tr (k t rfl).tr (h s rfl).set.ok (k t rfl).set.ok]; rfl, h2⟩
theorem refEqualO (h : SlAt w o) (k : SlAt w o2) : Ret Tryd.prog 91 [rv o, rv o2] w (fun v w' => v = .bool (both eqF o o2) ∧ Sm w w') := by
  cases o with
  | none =>
    have : Ret Tryd.prog 91 [.pointer none, optr (o2.map (·.q))] w _ := refEqual_nil _
    cases o2 <;> exact this.mono fun v w' ⟨h1, h2⟩ => ⟨h1, by rw [h2]; exact Sm.refl _⟩
  | some s =>
    cases o2 with
    | none => exact refEqual_nil2.mono fun v w' ⟨h1, h2⟩ => ⟨h1, by rw [h2]; exact Sm.refl _⟩
    | some t => exact refEqual_ret (h s rfl).ref (k t rfl).ref (h s rfl).ris (k t rfl).ris
theorem WithinO (h : SlAt w o) (k : SlAt w o2) : Ret Tryd.prog 51 [sv o, sv o2] w (fun v w' => v = .bool (both wiF o o2) ∧ Sm w w') := by
  cases o with
  | none => exact Within_nil _
  | some s =>
    cases o2 with
    | none => exact Within_nil2 (h s rfl).set
    | some t => exact (Within_ret (h s rfl).set (k t rfl).set).mono fun v w' ⟨h1, h2⟩ => ⟨by rw [h1, withinW_eq (h s rfl).tr (h s rfl).set.ok (k t rfl).set.ok]; rfl, h2⟩
theorem refWithinO (h : SlAt w o) (k : SlAt w o2) : Ret Tryd.prog 92 [rv o, rv o2] w (fun v w' => v = .bool (both wiF o o2) ∧ Sm w w') := by
  cases o with
  | none => exact (refWithin_nil _).mono fun v w' ⟨h1, h2⟩ => ⟨h1, by rw [h2]; exact Sm.refl _⟩
  | some s =>
    cases o2 with
    | none => exact refWithin_nil2.mono fun v w' ⟨h1, h2⟩ => ⟨h1, by rw [h2]; exact Sm.refl _⟩
    | some t => exact refWithin_ret (h s rfl).ref (k t rfl).ref (by have := (h s rfl).ris.len; omega) (by have := (k t rfl).ris.len; omega)
theorem MeetsO (h : SlAt w o) (k : SlAt w o2) : Ret Tryd.prog 52 [sv o, sv o2] w (fun v w' => v = .bool (both meF o o2) ∧ Sm w w') := by
  cases o with
  | none => exact Meets_nil _
  | some s =>
    cases o2 with
    | none => exact Meets_nil2 (h s rfl).set
    | some t => exact (Meets_ret (h s rfl).set (k t rfl).set).mono fun v w' ⟨h1, h2⟩ => ⟨by rw [h1, meetsW_eq (h s rfl).set.ok]; rfl, h2⟩
theorem refMeetsO (h : SlAt w o) (k : SlAt w o2) : Ret Tryd.prog 93 [rv o, rv o2] w (fun v w' => v = .bool (both meF o o2) ∧ Sm w w') := by
  cases o with
  | none => exact (refMeets_nil _).mono fun v w' ⟨h1, h2⟩ => ⟨h1, by rw [h2]; exact Sm.refl _⟩
  | some s =>
    cases o2 with
    | none => exact refMeets_nil2.mono fun v w' ⟨h1, h2⟩ => ⟨h1, by rw [h2]; exact Sm.refl _⟩
    | some t => exact refMeets_ret (h s rfl).ref (k t rfl).ref (by have := (h s rfl).ris.len; omega) (by have := (k t rfl).ris.len; omega)
/-! ### What turns a place: the program's set first, the document's behind it -/
/-- the program's set holds the list l' now -/
def Half (w : World) (o : Option Sl) (w' : World) (l' : List Nat) : Prop := match o with
  | none => w' = w
  | some s => ∃ ws' ad' cap', SetTo w s.p s.ad w' ws' ad' cap' ∧ Tr ws' ∧ elems ws' = l'
structure Turned (w : World) (o : Option Sl) (w' : World) (o' : Option Sl) : Prop where
  kp : Kp (slb o) w w'
  at_ : SlAt w' o'
  sv_ : sv o' = sv o
  rv_ : rv o' = rv o
  new : ∀ b, b ∈ slb o' → b ∈ slb o ∨ w.heap.size ≤ b
theorem Turned.none {w' : World} (hs : Sm w w') : Turned w none w' none := ⟨hs.kp _, SlAt.none, rfl, rfl, fun b hb => .inl hb⟩
theorem Half.kp {w' : World} {l' : List Nat} (h : SlAt w o) (k : Half w o w' l') : Kp (slb o) w w' := by
  cases o with
  | none => unfold Half at k; rw [k]; exact Kp.refl _ _
  | some s =>
    obtain ⟨ws', ad', cap', h1, _, _⟩ := k
    exact h1.kp.mono fun b hb => List.mem_append_left _ hb
theorem Half.ref {s : Sl} {w' : World} {l' : List Nat} (h : SlOk w s) (k : Half w (some s) w' l') : RefAt w' s.q (elems s.ws) s.adr s.capr := by
  obtain ⟨ws', ad', cap', h1, _, _⟩ := k
  exact h.ref.kp h1.kp fun b hb hb2 => h.apart b hb2 hb
theorem Half.tab {w' : World} {l' : List Nat} (hT : TabW w) (h : SlAt w o) (k : Half w o w' l') : TabW w' := by
  cases o with
  | none => unfold Half at k; rw [k]; exact hT
  | some s => exact hT.kp (k.kp h) (SlAt.tabAway (h s rfl))
theorem Half.done {s : Sl} {w1 w2 : World} {l' : List Nat} {adr' : Option Addr} {capr' : Nat} (h : SlOk w s) (k : Half w (some s) w1 l') (r : RefTo w1 s.q s.adr w2 l' adr' capr') : ∃ o', Turned w (some s) w2 o' := by
  obtain ⟨ws', ad', cap', h1, h2, h3⟩ := k
  have hsz := h1.kp.size
  have hap : ∀ b, b ∈ s.p :: blkOf ad' → b ∉ s.q :: blkOf s.adr := fun b hb hb2 => by
    rcases List.mem_cons.1 hb with e | hb
    · exact h.apart b (by rw [e]; simp) hb2
    · rcases h1.new b hb with h4 | h4
      · exact h.apart b (List.mem_cons_of_mem _ h4) hb2
      · have := h.ref.lt b hb2; omega
  have hs2 := h1.at_.kp r.kp hap
  refine ⟨some ⟨s.p, ws', ad', cap', s.q, adr', capr'⟩, ⟨?_, ?_, rfl, rfl, ?_⟩⟩
  · exact (h1.kp.mono fun b hb => List.mem_append_left _ hb).trans (r.kp.mono fun b hb => List.mem_append_right _ hb)
  · intro s' hs'
    cases hs'
    refine ⟨hs2, h2, by rw [h3]; exact r.at_, fun b hb hb2 => ?_⟩
    rcases List.mem_cons.1 hb2 with e | hb2
    · exact hap b hb (by rw [e]; simp)
    · rcases r.new b hb2 with h4 | h4
      · exact hap b hb (List.mem_cons_of_mem _ h4)
      · have := h1.at_.lt b hb; omega
  · intro b hb
    rcases List.mem_append.1 hb with hb | hb
    · rcases List.mem_cons.1 hb with e | hb
      · exact .inl (List.mem_append_left _ (by rw [e]; simp))
      · rcases h1.new b hb with h4 | h4
        · exact .inl (List.mem_append_left _ (List.mem_cons_of_mem _ h4))
        · exact .inr h4
    · rcases List.mem_cons.1 hb with e | hb
      · exact .inl (List.mem_append_right _ (by rw [e]; simp))
      · rcases r.new b hb with h4 | h4
        · exact .inl (List.mem_append_right _ (List.mem_cons_of_mem _ h4))
        · exact .inr (by omega)
/-- nothing has turned -/
theorem Half.same (h : SlAt w o) : Half w o w (el o) := by
  cases o with
  | none => rfl
  | some s => exact ⟨s.ws, s.ad, s.cap, SetTo.refl (h s rfl).set, (h s rfl).tr, rfl⟩
theorem Half.sm {w1 w2 : World} {l' : List Nat} (h : Half w o w1 l') (hs : w2 = w1) : Half w o w2 l' := by rw [hs]; exact h
def codeN (o : Option Sl) (n : Int) : Int := match o with
  | none => 1
  | some _ => if rightB n then 0 else 2
def putLI (o : Option Sl) (n : Int) : List Nat := if rightB n then withL (el o) n.toNat else el o
def delLI (o : Option Sl) (n : Int) : List Nat := if rightB n then (el o).filter (fun x => decide (x ≠ n.toNat)) else el o
theorem PutO (hT : TabW w) (h : SlAt w o) (n : Int) : Ret Tryd.prog 41 [sv o, I n] w (fun v w' => v = I (codeN o n) ∧ Half w o w' (putLI o n)) := by
  cases o with
  | none => exact Put_nil n
  | some s =>
    have hs := h s rfl
    cases hb : rightB n with
    | false =>
      have e1 : codeN (some s) n = 2 := by simp [codeN, hb]
      have e2 : putLI (some s) n = elems s.ws := by simp [putLI, hb, el]
      rw [e1, e2]
      exact (Put_bad hs.set (rightB_bad hb)).mono fun v w' ⟨h1, h2⟩ => ⟨h1, by rw [h2]; exact Half.same h⟩
    | true =>
      obtain ⟨k, rfl, hk⟩ := rightB_nat hb
      have e1 : codeN (some s) (k : Int) = 0 := by simp [codeN, hb]
      have e2 : putLI (some s) (k : Int) = withL (elems s.ws) k := by simp [putLI, hb, el]
      rw [e1, e2]
      exact (Put_ret hT hs.set hk).mono fun v w' ⟨h1, ad', cap', h2⟩ => ⟨h1, _, ad', cap', h2, tr_putW hs.set.ok hs.tr k, elems_putW _ _⟩
theorem refPutO {w1 : World} (hT : TabW w) (h : SlAt w o) (n : Int) (k : Half w o w1 (putLI o n)) : Ret Tryd.prog 80 [rv o, I n] w1 (fun v w' => v = I (codeN o n) ∧ ∃ o', Turned w o w' o') := by
  have hT1 := k.tab hT h
  cases o with
  | none => exact (refPut_nil n).mono fun v w' ⟨h1, h2⟩ => ⟨h1, none, by unfold Half at k; rw [h2, k]; exact Turned.none (Sm.refl _)⟩
  | some s =>
    have hs := h s rfl
    have hr := k.ref hs
    cases hb : rightB n with
    | false =>
      have e1 : codeN (some s) n = 2 := by simp [codeN, hb]
      have e2 : putLI (some s) n = elems s.ws := by simp [putLI, hb, el]
      rw [e2] at k
      rw [e1]
      exact (refPut_bad hb).mono fun v w' ⟨h1, h2⟩ => ⟨h1, by rw [h2]; exact k.done hs (RefTo.refl hr)⟩
    | true =>
      obtain ⟨j, rfl, hk⟩ := rightB_nat hb
      have e1 : codeN (some s) (j : Int) = 0 := by simp [codeN, hb]
      have e2 : putLI (some s) (j : Int) = withL (elems s.ws) j := by simp [putLI, hb, el]
      rw [e2] at k
      rw [e1]
      exact (refPut_ret hT1 hr hs.ris hk).mono fun v w' ⟨h1, ad', cap', h2⟩ => ⟨h1, k.done hs h2⟩
theorem DelO (h : SlAt w o) (n : Int) : Ret Tryd.prog 42 [sv o, I n] w (fun v w' => v = I (codeN o n) ∧ Half w o w' (delLI o n)) := by
  cases o with
  | none => exact Del_nil n
  | some s =>
    have hs := h s rfl
    cases hb : rightB n with
    | false =>
      have e1 : codeN (some s) n = 2 := by simp [codeN, hb]
      have e2 : delLI (some s) n = elems s.ws := by simp [delLI, hb, el]
      rw [e1, e2]
      exact (Del_bad hs.set (rightB_bad hb)).mono fun v w' ⟨h1, h2⟩ => ⟨h1, by rw [h2]; exact Half.same h⟩
    | true =>
      obtain ⟨k, rfl, hk⟩ := rightB_nat hb
      have e1 : codeN (some s) (k : Int) = 0 := by simp [codeN, hb]
      have e2 : delLI (some s) (k : Int) = (elems s.ws).filter (fun x => decide (x ≠ k)) := by simp [delLI, hb, el]
      rw [e1, e2]
      exact (Del_ret hs.set hk).mono fun v w' ⟨h1, h2⟩ => ⟨h1, _, _, _, h2, tr_delW hs.tr k, elems_delW hs.set.ok _⟩
theorem refDelO {w1 : World} (hT : TabW w) (h : SlAt w o) (n : Int) (k : Half w o w1 (delLI o n)) : Ret Tryd.prog 81 [rv o, I n] w1 (fun v w' => v = I (codeN o n) ∧ ∃ o', Turned w o w' o') := by
  have hT1 := k.tab hT h
  cases o with
  | none => exact (refDel_nil n).mono fun v w' ⟨h1, h2⟩ => ⟨h1, none, by unfold Half at k; rw [h2, k]; exact Turned.none (Sm.refl _)⟩
  | some s =>
    have hs := h s rfl
    have hr := k.ref hs
    cases hb : rightB n with
    | false =>
      have e1 : codeN (some s) n = 2 := by simp [codeN, hb]
      have e2 : delLI (some s) n = elems s.ws := by simp [delLI, hb, el]
      rw [e2] at k
      rw [e1]
      exact (refDel_bad hb).mono fun v w' ⟨h1, h2⟩ => ⟨h1, by rw [h2]; exact k.done hs (RefTo.refl hr)⟩
    | true =>
      obtain ⟨j, rfl, hk⟩ := rightB_nat hb
      have e1 : codeN (some s) (j : Int) = 0 := by simp [codeN, hb]
      have e2 : delLI (some s) (j : Int) = (elems s.ws).filter (fun x => decide (x ≠ j)) := by simp [delLI, hb, el]
      rw [e2] at k
      rw [e1]
      exact (refDel_ret hT1 hr (by have := hs.ris.len; omega) hk).mono fun v w' ⟨h1, ad', cap', h2⟩ => ⟨h1, k.done hs h2⟩
end
end Go.Vc
