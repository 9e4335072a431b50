/- A region that draws its order and holds several operations that turn the world, apart from each other: every order of these is walked, what only reads goes first. -/
import Derived.Test.YtkgjibhbhddckaaDoorQClKNil19
namespace Go.Vc
open Go
variable {P : Program} {n : Nat} {a : Act} {e : Env} {w : World} {K : EPost} {X : List (Nat × EPost)} {R : EPost} {ro : Option Nat} {all : List Oper} {Fl : World → Prop}
def lst (L : Array Oper) (done : List Nat) : Array Bool := done.foldl (fun l i => l.setIfInBounds i true) (Array.replicate L.size false)
theorem lst_size (L : Array Oper) (done : List Nat) : (lst L done).size = L.size := by
  unfold lst
  have key : ∀ (d : List Nat) (l : Array Bool), l.size = L.size → (d.foldl (fun l i => l.setIfInBounds i true) l).size = L.size := by
    intro d
    induction d with
    | nil => exact fun l h => h
    | cons i r ih => exact fun l h => ih _ (by simpa using h)
  exact key done _ (by simp)
theorem lst_snoc (L : Array Oper) (done : List Nat) (i : Nat) : lst L (done ++ [i]) = (lst L done).setIfInBounds i true := by simp [lst]
/-- in this state, with these done, whatever order is picked -/
def AnyE (ro : Option Nat) (P : Program) (n : Nat) (all : List Oper) (Fl : World → Prop) (K : EPost) (fuel : Nat) (done : List Nat) (e : Env) (w : World) : Prop :=
  Closed all.toArray (lst all.toArray done) → ∀ ds a, Fit n ds a e → anyF ro P all.toArray Fl (fun a w => ∃ e, Fit n ds a e ∧ K e w) fuel (lst all.toArray done) a w
theorem r_any {id : Nat} (Fl : World → Prop) (fuel : Nat) (hm : P.follows .mixedOrders = true) (hl : Nat.beq fuel all.toArray.size = true)
    (h : AnyE ro P n all Fl K fuel [] e { w with drawn := w.drawn + 1 }) : Wp ro P n (.region id all.toArray true) K X R e w := by
  intro ds a ha
  refine wpIn_region_any hm ?_
  rw [Nat.eq_of_beq_eq_true hl] at h
  exact anyF_in (fun a w hq => hq) _ _ _ _ (h (fun j q hq hl => by
    have e0 : lst all.toArray [] = Array.replicate all.toArray.size false := rfl
    rw [e0, Array.getD_eq_getD_getElem?, Array.getElem?_replicate] at hl
    split at hl <;> simp at hl) ds a ha)
theorem t_end {done : List Nat} (hB : (Region.ready .any all.toArray (lst all.toArray done)).isEmpty = true) (h : K e w) : AnyE ro P n all Fl K 0 done e w :=
  fun _ ds a ha => ⟨by simpa using hB, e, ha, h⟩
def segB (L : Array Oper) : List Nat → Array Bool → Bool
  | [], _ => true
  | i :: r, listed => (Region.ready .any L listed).contains i && Region.free .any L listed i && segB L r (listed.setIfInBounds i true)
theorem seg_any {L : Array Oper} {Q : Act → World → Prop} (hP : plainB L = true) : ∀ (is : List Nat) (done : List Nat) (a : Act) (w : World) (fuel : Nat), Closed L (lst L done) → Fl w → segB L is (lst L done) = true →
    mixW ro P L Fl (fun a w => Closed L (lst L (done ++ is)) → anyF ro P L Fl Q fuel (lst L (done ++ is)) a w) (is.map fun i => (i, false)) a w → anyF ro P L Fl Q (is.length + fuel) (lst L done) a w
  | [], done, a, w, fuel, hcl, _, _, h => by
    simp only [List.append_nil, List.map_nil, mixW] at h
    simpa using h hcl
  | i :: r, done, a, w, fuel, hcl, hw, hB, h => by
    simp only [List.map_cons] at h
    unfold mixW at h
    cases ho : L[i]? with
    | none => simp only [ho] at h
    | some o =>
      simp only [ho, Bool.false_eq_true, if_false] at h
      simp only [segB, Bool.and_eq_true] at hB
      obtain ⟨⟨hr, hf⟩, hB'⟩ := hB
      obtain ⟨v, hy, hK⟩ := h
      have hr' : i ∈ Region.ready .any L (lst L done) := by simpa using hr
      have e1 : (i :: r).length + fuel = (r.length + fuel) + 1 := by simp; omega
      rw [e1]
      refine anyF_first hP ho (r.length + fuel) (lst L done) a w (lst_size L done) hcl hw (Region.free_spec ho hf) hr' hy ?_
      rw [← lst_snoc]
      refine seg_any hP r (done ++ [i]) _ w fuel (by rw [lst_snoc]; exact hcl.set hr') hw (by rw [lst_snoc]; exact hB') ?_
      have e2 : done ++ [i] ++ r = done ++ i :: r := by simp
      rw [e2]; exact hK
theorem mixW_mono {L : Array Oper} {Q Q' : Act → World → Prop} (hq : ∀ a w, Q a w → Q' a w) (ord : List (Nat × Bool)) : ∀ (a : Act) (w : World), mixW ro P L Fl Q ord a w → mixW ro P L Fl Q' ord a w := by
  induction ord with
  | nil => exact fun a w h => hq a w h
  | cons p r ih =>
    intro a w h
    obtain ⟨i, b⟩ := p
    unfold mixW at h ⊢
    split
    · rename_i ho; simp only [ho] at h
    · rename_i o ho
      simp only [ho] at h
      cases b with
      | true => simp only [if_true] at h ⊢; exact opF_mono (fun a w hk => ⟨hk.1, ih a w hk.2⟩) h
      | false => simp only [Bool.false_eq_true, if_false] at h ⊢; obtain ⟨v, hy, hk⟩ := h; exact ⟨v, hy, ih _ _ hk⟩
/-- what only reads goes first -/
theorem t_seg {fuel0 : Nat} {done : List Nat} (is : List Nat) (fuel : Nat) (hP : plainB all.toArray = true) (hf : Nat.beq (is.length + fuel) fuel0 = true) (hB : segB all.toArray is (lst all.toArray done) = true) (hw : Fl w)
    (h : MOps ro P n all [] Fl (AnyE ro P n all Fl K fuel (done ++ is)) (is.map fun i => (i, false)) e w) : AnyE ro P n all Fl K fuel0 done e w := by
  intro hcl ds a ha
  rw [← Nat.eq_of_beq_eq_true hf]
  refine seg_any hP is done a w fuel hcl hw hB ?_
  refine mixW_mono (fun a w hq hcl' => ?_) _ _ _ (h ds a ha)
  obtain ⟨e', hf', hk⟩ := hq
  exact hk hcl' ds a hf'
theorem t_step {fuel : Nat} {done : List Nat} {i : Nat} {o : Oper} (hr : i ∈ Region.ready .any all.toArray (lst all.toArray done)) (ho : nthO all i = some o)
    (h : Ops ro P n all [] (fun e w => (lastB all.toArray i = true ∨ Fl w) ∧ AnyE ro P n all Fl K fuel (done ++ [i]) e w) [o] e w) (hcl : Closed all.toArray (lst all.toArray done)) {ds : List Deferred} {a : Act} (ha : Fit n ds a e) :
    opF ro P all.toArray i (fun a' w' => (lastB all.toArray i = true ∨ Fl w') ∧ anyF ro P all.toArray Fl (fun a w => ∃ e, Fit n ds a e ∧ K e w) fuel ((lst all.toArray done).setIfInBounds i true) a' w') a w := by
  have hoi : all.toArray[i]? = some o := by rw [List.getElem?_toArray, ← nthO_eq]; exact ho
  have h1 := h [] (fun _ _ => False) ds a ha
  unfold wpListIn at h1
  unfold opF
  simp only [hoi]
  split
  · rename_i hw
    rw [if_pos hw] at h1
    refine laxIn (fun a w hk => ?_) (fun c a w hq => hq) (fun a w hq => hq) h1
    obtain ⟨e', hf, hfl, hk⟩ := hk
    refine ⟨hfl, ?_⟩
    rw [← lst_snoc]
    exact hk (by rw [lst_snoc]; exact hcl.set hr) ds a hf
  · rename_i hw
    rw [if_neg hw] at h1
    obtain ⟨e', hf, hfl, hk⟩ := h1.2
    refine ⟨hfl, ?_⟩
    rw [← lst_snoc]
    exact hk (by rw [lst_snoc]; exact hcl.set hr) ds _ hf
/-- one that turns the world is next -/
theorem t_one {fuel : Nat} {done : List Nat} (i : Nat) {o : Oper} (hr : Region.ready .any all.toArray (lst all.toArray done) = [i]) (ho : nthO all i = some o)
    (h : Ops ro P n all [] (fun e w => (lastB all.toArray i = true ∨ Fl w) ∧ AnyE ro P n all Fl K fuel (done ++ [i]) e w) [o] e w) : AnyE ro P n all Fl K (fuel + 1) done e w := by
  intro hcl ds a ha
  refine ⟨fun h0 => (by rw [h0] at hr; cases hr), fun j hj => ?_⟩
  have hj' := hj
  rw [hr] at hj'
  obtain rfl : j = i := by simpa using hj'
  exact t_step hj ho h hcl ha
theorem t_two {fuel : Nat} {done : List Nat} (i j : Nat) {o q : Oper} (hr : Region.ready .any all.toArray (lst all.toArray done) = [i, j]) (ho : nthO all i = some o) (hq : nthO all j = some q)
    (h : Ops ro P n all [] (fun e w => (lastB all.toArray i = true ∨ Fl w) ∧ AnyE ro P n all Fl K fuel (done ++ [i]) e w) [o] e w)
    (k : Ops ro P n all [] (fun e w => (lastB all.toArray j = true ∨ Fl w) ∧ AnyE ro P n all Fl K fuel (done ++ [j]) e w) [q] e w) : AnyE ro P n all Fl K (fuel + 1) done e w := by
  intro hcl ds a ha
  refine ⟨fun h0 => (by rw [h0] at hr; cases hr), fun m hm => ?_⟩
  have hm' := hm
  rw [hr] at hm'
  simp only [List.mem_cons, List.not_mem_nil, or_false] at hm'
  rcases hm' with rfl | rfl
  · exact t_step hm ho h hcl ha
  · exact t_step hm hq k hcl ha
theorem t_three {fuel : Nat} {done : List Nat} (i j l : Nat) {o q r : Oper} (hr : Region.ready .any all.toArray (lst all.toArray done) = [i, j, l]) (ho : nthO all i = some o) (hq : nthO all j = some q) (hl : nthO all l = some r)
    (h : Ops ro P n all [] (fun e w => (lastB all.toArray i = true ∨ Fl w) ∧ AnyE ro P n all Fl K fuel (done ++ [i]) e w) [o] e w)
    (k : Ops ro P n all [] (fun e w => (lastB all.toArray j = true ∨ Fl w) ∧ AnyE ro P n all Fl K fuel (done ++ [j]) e w) [q] e w)
    (m : Ops ro P n all [] (fun e w => (lastB all.toArray l = true ∨ Fl w) ∧ AnyE ro P n all Fl K fuel (done ++ [l]) e w) [r] e w) : AnyE ro P n all Fl K (fuel + 1) done e w := by
  intro hcl ds a ha
  refine ⟨fun h0 => (by rw [h0] at hr; cases hr), fun z hz => ?_⟩
  have hz' := hz
  rw [hr] at hz'
  simp only [List.mem_cons, List.not_mem_nil, or_false] at hz'
  rcases hz' with rfl | rfl | rfl
  · exact t_step hz ho h hcl ha
  · exact t_step hz hq k hcl ha
  · exact t_step hz hl m hcl ha
/-- a point that many orders come to -/
theorem t_with {fuel : Nat} {done : List Nat} (J : EPost) (fuelL : Nat) (doneL : List Nat) (leaf : ∀ e w, J e w → AnyE ro P n all Fl K fuelL doneL e w) (tree : (∀ e w, J e w → AnyE ro P n all Fl K fuelL doneL e w) → AnyE ro P n all Fl K fuel done e w) : AnyE ro P n all Fl K fuel done e w := tree leaf
def eqL : List Bool → List Bool → Bool
  | [], [] => true
  | a :: r, b :: q => (a == b) && eqL r q
  | _, _ => false
theorem eqL_eq : ∀ {l m : List Bool}, eqL l m = true → l = m
  | [], [], _ => rfl
  | a :: r, b :: q, h => by
    simp only [eqL, Bool.and_eq_true, beq_iff_eq] at h
    rw [h.1, eqL_eq h.2]
  | [], _ :: _, h => by cases h
  | _ :: _, [], h => by cases h
theorem t_same {fuel : Nat} {done done' : List Nat} (hs : eqL (lst all.toArray done).toList (lst all.toArray done').toList = true) (h : AnyE ro P n all Fl K fuel done' e w) : AnyE ro P n all Fl K fuel done e w := by
  have e1 : lst all.toArray done = lst all.toArray done' := Array.toList_inj.1 (eqL_eq hs)
  unfold AnyE at h ⊢
  rw [e1]; exact h
end Go.Vc
