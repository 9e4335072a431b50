/- A region that draws its order, and first reads cells, then writes them: a class of worlds that stands until the first writer, m, has been. -/
import Derived.Test.YtghdpibdidfpbaaDoorQClNPlays11
import Derived.Test.YtghdpibdidfpbaaDoorQClNPlays1
namespace Go.Vc
open Go
variable {P : Program} {n : Nat} {a : Act} {e : Env} {w : World} {K : EPost} {X : List (Nat × EPost)} {R : EPost} {G : List Nat} {ro : Option Nat}
section
variable {L : Array Oper} {m : Nat} {C : World → Prop} {Q : Act → World → Prop}
/-- the class stands as long as m has not been -/
def Fl2 (m : Nat) (C : World → Prop) (listed : Array Bool) (w : World) : Prop := listed.getD m false = false → C w
def waitsB (L : Array Oper) (m i : Nat) : Bool := match L[m]? with
  | some q => bindsOn q i
  | none => false
/-- what is known where i is done: the class, if m waits for i -/
def D2 (L : Array Oper) (m : Nat) (C : World → Prop) (i : Nat) (w : World) : Prop := waitsB L m i = true → C w
theorem D2.of {listed : Array Bool} {i : Nat} (hcl : Closed L listed) (h0 : listed.getD i false = false) (h : Fl2 m C listed w) : D2 L m C i w := fun hw => by
  refine h ?_
  unfold waitsB at hw
  cases hq : L[m]? with
  | none => rw [hq] at hw; cases hw
  | some q =>
    rw [hq] at hw
    obtain ⟨e, he, hbe⟩ := List.any_eq_true.1 hw
    rw [Bool.and_eq_true] at hbe
    have hon : e.on = i := Nat.eq_of_beq_eq_true hbe.2
    cases hm : listed.getD m false with
    | false => rfl
    | true =>
      have := hcl m q hq hm e (by simpa using he) hbe.1
      rw [hon, h0] at this; cases this
theorem Fl2.set {listed : Array Bool} {i : Nat} (h : Fl2 m C listed w) : Fl2 m C (listed.setIfInBounds i true) w := fun h1 => by
  refine h ?_
  by_cases c : i = m
  · subst c
    by_cases hs : i < listed.size
    · simp [Array.getD_eq_getD_getElem?, hs] at h1
    · simp [Array.getD_eq_getD_getElem?, hs]
  · rwa [getD_set_ne false c] at h1
def anyF2 (ro : Option Nat) (P : Program) (L : Array Oper) (m : Nat) (C : World → Prop) (Q : Act → World → Prop) : Nat → Array Bool → Act → World → Prop
  | 0, listed, a, w => Region.ready .any L listed = [] ∧ Q a w
  | fuel + 1, listed, a, w => (Region.ready .any L listed = [] → Q a w) ∧ ∀ i ∈ Region.ready .any L listed,
      opF ro P L i (fun a' w' => Fl2 m C (listed.setIfInBounds i true) w' ∧ anyF2 ro P L m C Q fuel (listed.setIfInBounds i true) a' w') a w
theorem anyF2_in {Q' : Exit → Act → World → Prop} (hQ : ∀ a w, Q a w → Q' .normal a w) : ∀ (fuel : Nat) (listed : Array Bool) (a : Act) (w : World), anyF2 ro P L m C Q fuel listed a w → wpAnyIn (FW ro) 0 P .any L Q' fuel listed a w
  | 0, _, _, _, h => ⟨h.1, hQ _ _ h.2⟩
  | fuel + 1, listed, a, w, h => ⟨fun h0 => hQ _ _ (h.1 h0), fun i hi => by
      have h := h.2 i hi
      unfold opF at h
      unfold wpOpIn
      split
      · rename_i ho; simp only [ho] at h; exact anyF2_in hQ _ _ _ _ h.2
      · rename_i o ho
        simp only [ho] at h
        split
        · rename_i hw; simp only [hw, if_true] at h; exact strictIn (fun a w hk => anyF2_in hQ _ _ _ _ hk.2) h
        · rename_i hw; simp only [hw] at h; exact ⟨fun _ _ => trivial, anyF2_in hQ _ _ _ _ h.2⟩⟩
theorem anyF2_first (hP : plainB L = true) {i : Nat} {oi : Oper} {v : Value} (hi : L[i]? = some oi) (him : i ≠ m) :
    ∀ (fuel : Nat) (listed : Array Bool) (a : Act) (w : World), listed.size = L.size → Closed L listed → Fl2 m C listed w →
      (∀ j oj, L[j]? = some oj → j ≠ i → listed.getD j true = false → (∀ e ∈ oj.after, Region.binds .any e = true → e.on ≠ i) → oi.apart L oj = true) →
      i ∈ Region.ready .any L listed → YF P L (D2 L m C i) oi v a →
      anyF2 ro P L m C Q fuel (listed.setIfInBounds i true) (a.put oi.dst v) w → anyF2 ro P L m C Q (fuel + 1) listed a w := by
  intro fuel
  induction fuel with
  | zero =>
    intro listed a w hsz hcl hw _ hr hy H
    have hi0 := (mem_ready.1 hr).1
    have hilt : i < L.size := (Array.getElem?_eq_some_iff.1 hi).1
    have hi0' : listed.getD i false = false := by
      simp [Array.getD_eq_getD_getElem?, hsz, hilt] at hi0 ⊢; exact hi0
    refine ⟨fun h => (by rw [h] at hr; cases hr), fun j hj => ?_⟩
    by_cases hji : j = i
    · subst hji; exact hy.opF hi (D2.of hcl hi0' hw) ⟨hw.set, H⟩
    · have := ready_mono hj hji
      rw [H.1] at this
      cases this
  | succ fuel ih =>
    intro listed a w hsz hcl hw hfree hr hy H
    have hi0 := (mem_ready.1 hr).1
    have hilt : i < L.size := (Array.getElem?_eq_some_iff.1 hi).1
    have hi0' : listed.getD i false = false := by
      simp [Array.getD_eq_getD_getElem?, hsz, hilt] at hi0 ⊢; exact hi0
    refine ⟨fun h => (by rw [h] at hr; cases hr), fun j hj => ?_⟩
    by_cases hji : j = i
    · subst hji; exact hy.opF hi (D2.of hcl hi0' hw) ⟨hw.set, H⟩
    · have h1 := H.2 j (ready_mono hj hji)
      obtain ⟨hjun, oj, hoj, hall⟩ := mem_ready.1 hj
      have hnot : ∀ e ∈ oj.after, Region.binds .any e = true → e.on ≠ i := fun e he hb heq => by
        have h1 := hall e he hb
        rw [heq, hi0'] at h1; cases h1
      have hpi := plain_spec hP i oi hi
      have hpj := plain_spec hP j oj hoj
      have h2 := opF_put hoj (hfree j oj hoj hji hjun hnot) hpi.1 hpj.1 hpj.2 hy h1
      have hfree' : ∀ k ok, L[k]? = some ok → k ≠ i → (listed.setIfInBounds j true).getD k true = false →
          (∀ e ∈ ok.after, Region.binds .any e = true → e.on ≠ i) → oi.apart L ok = true := fun k ok hk hki hun hno => by
        refine hfree k ok hk hki ?_ hno
        by_cases hjk : j = k
        · subst hjk; exact hjun
        · rw [getD_set_ne true hjk] at hun; exact hun
      refine opF_mono (fun a' w' h3 => ?_) h2
      obtain ⟨hy', hfl, h4⟩ := h3
      have hx : anyF2 ro P L m C Q fuel ((listed.setIfInBounds j true).setIfInBounds i true) (a'.put oi.dst v) w' := by
        rw [Array.setIfInBounds_comm _ _ hji]; exact h4
      have hfw : Fl2 m C (listed.setIfInBounds j true) w' := fun h5 => hfl (by rw [Array.setIfInBounds_comm _ _ (Ne.symm hji), getD_set_ne false him]; exact h5)
      exact ⟨hfw, ih (listed.setIfInBounds j true) a' w' (by simp [hsz]) (hcl.set hj) hfw hfree' (ready_mono hr (Ne.symm hji)) hy' hx⟩
/-! ### The walk -/
def mixW2 (ro : Option Nat) (P : Program) (L : Array Oper) (m : Nat) (C : World → Prop) (Q : Act → World → Prop) : Bool → List (Nat × Bool) → Act → World → Prop
  | _, [], a, w => Q a w
  | ps, (i, b) :: r, a, w => match L[i]? with
    | none => False
    | some o => if b then opF ro P L i (fun a w => ((ps || Nat.beq i m) = true ∨ C w) ∧ mixW2 ro P L m C Q (ps || Nat.beq i m) r a w) a w
      else ∃ v, YF P L (D2 L m C i) o v a ∧ mixW2 ro P L m C Q ps r (a.put o.dst v) w
def quietB (m : Nat) : List (Nat × Bool) → Bool
  | [] => true
  | (i, false) :: r => !Nat.beq i m && quietB m r
  | (_, true) :: r => quietB m r
theorem mix2_any (hP : plainB L = true) : ∀ (ord : List (Nat × Bool)) (listed : Array Bool) (ps : Bool) (a : Act) (w : World), listed.size = L.size → Closed L listed → Fl2 m C listed w → (ps = true → listed.getD m false = true) → mixB L ord listed = true → quietB m ord = true → mixW2 ro P L m C Q ps ord a w → anyF2 ro P L m C Q ord.length listed a w
  | [], listed, ps, a, w, _, _, _, _, hB, _, h => ⟨by simpa [mixB] using hB, h⟩
  | (i, b) :: r, listed, ps, a, w, hsz, hcl, hw, hps, hB, hq, h => by
    unfold mixW2 at h
    cases ho : L[i]? with
    | none => simp only [ho] at h
    | some o =>
      simp only [ho] at h
      have hilt : i < L.size := (Array.getElem?_eq_some_iff.1 ho).1
      cases b with
      | false =>
        simp only [mixB, Bool.and_eq_true] at hB
        simp only [quietB, Bool.and_eq_true, Bool.not_eq_true'] at hq
        obtain ⟨⟨hr, hf⟩, hB'⟩ := hB
        simp only [Bool.false_eq_true, if_false] at h
        obtain ⟨v, hy, hK⟩ := h
        have him : i ≠ m := fun e => by have := hq.1; rw [e, nbeq_self] at this; cases this
        exact anyF2_first hP ho him r.length listed a w hsz hcl hw (Region.free_spec ho hf) (by simpa using hr) hy (mix2_any hP r _ ps _ w (by simp [hsz]) (hcl.set (by simpa using hr)) hw.set (fun h => by rw [getD_set_ne false him]; exact hps h) hB' hq.2 hK)
      | true =>
        simp only [mixB, Bool.and_eq_true] at hB
        simp only [quietB] at hq
        obtain ⟨hr, hB'⟩ := hB
        have hr := onlyB_eq hr
        simp only [if_true] at h
        refine ⟨fun h0 => (by rw [h0] at hr; cases hr), fun j hj => ?_⟩
        rw [hr] at hj
        have hji : j = i := by simpa using hj
        subst hji
        have key : (ps || Nat.beq j m) = true → (listed.setIfInBounds j true).getD m false = true := fun h => by
          by_cases c : j = m
          · subst c; simp [Array.getD_eq_getD_getElem?, hsz, hilt]
          · rw [getD_set_ne false c]
            rw [nbeq_ne c, Bool.or_false] at h
            exact hps h
        refine opF_mono (fun a' w' h3 => ?_) h
        have hfl : Fl2 m C (listed.setIfInBounds j true) w' := fun h5 => by
          rcases h3.1 with h | h
          · rw [key h] at h5; cases h5
          · exact h
        exact ⟨hfl, mix2_any hP r _ _ a' w' (by simp [hsz]) (hcl.set (by rw [hr]; simp)) hfl key hB' hq h3.2⟩
end
/-! ### The walk over environments -/
def MOps2 (ro : Option Nat) (P : Program) (n : Nat) (all : List Oper) (_G : List Nat) (m : Nat) (C : World → Prop) (ps : Bool) (K : EPost) (ord : List (Nat × Bool)) (e : Env) (w : World) : Prop :=
  ∀ ds a, Fit n ds a e → mixW2 ro P all.toArray m C (fun a w => ∃ e, Fit n ds a e ∧ K e w) ps ord a w
variable {all : List Oper} {C : World → Prop} {m : Nat} {r : List (Nat × Bool)} {ps : Bool}
theorem r_mix2 {id : Nat} (C : World → Prop) (m : Nat) (ord : List (Nat × Bool)) (hm : P.follows .mixedOrders = true) (hP : plainB all.toArray = true) (hB : mixB all.toArray ord (Array.replicate all.toArray.size false) = true) (hq : quietB m ord = true) (hl : Nat.beq ord.length all.toArray.size = true) (hw : C { w with drawn := w.drawn + 1 })
    (h : MOps2 ro P n all [] m C false K ord e { w with drawn := w.drawn + 1 }) : Wp ro P n (.region id all.toArray true) K X R e w := by
  intro ds a ha
  refine wpIn_region_any hm ?_
  have h1 := mix2_any (ro := ro) hP ord (Array.replicate all.toArray.size false) false a { w with drawn := w.drawn + 1 } (by simp) (fun j q hq hl => by
    rw [Array.getD_eq_getD_getElem?, Array.getElem?_replicate] at hl
    split at hl <;> simp at hl) (fun _ => hw) (fun h => by cases h) hB hq (h ds a ha)
  rw [Nat.eq_of_beq_eq_true hl] at h1
  exact anyF2_in (fun a w hq => hq) _ _ _ _ h1
theorem s_nil (h : K e w) : MOps2 ro P n all G m C ps K [] e w := fun _ _ ha => ⟨e, ha, h⟩
theorem s_act' {i : Nat} {o : Oper} (ho : nthO all i = some o) (h : Ops ro P n all G (fun e w => ((ps || Nat.beq i m) = true ∨ C w) ∧ MOps2 ro P n all G m C (ps || Nat.beq i m) K r e w) [o] e w) : MOps2 ro P n all G m C ps K ((i, true) :: r) e w := by
  intro ds a ha
  have hoi : all.toArray[i]? = some o := by rw [List.getElem?_toArray, ← nthO_eq]; exact ho
  unfold mixW2
  simp only [hoi, if_true]
  have h1 := h [] (fun _ _ => False) ds a ha
  unfold wpListIn at h1
  unfold opF
  simp only [hoi]
  split
  · rename_i hw
    rw [if_pos hw] at h1
    refine laxIn (fun a w hk => ?_) (fun c a w hq => hq) (fun a w hq => hq) h1
    obtain ⟨e', hf, hfl, hk⟩ := hk
    exact ⟨hfl, hk ds a hf⟩
  · rename_i hw
    rw [if_neg hw] at h1
    obtain ⟨e', hf, hfl, hk⟩ := h1.2
    exact ⟨hfl, hk ds _ hf⟩
/-- the first writer, or one behind it -/
theorem s_act {i : Nat} {o : Oper} (ho : nthO all i = some o) (hp : (ps || Nat.beq i m) = true) (h : Ops ro P n all G (fun e w => MOps2 ro P n all G m C true K r e w) [o] e w) : MOps2 ro P n all G m C ps K ((i, true) :: r) e w :=
  s_act' ho (by rw [hp]; exact h.monoK fun e w hk => ⟨.inl rfl, hk⟩)
theorem s_does {i : Nat} {o : Oper} {v : Value} (ho : nthO all i = some o) (hd : dOk n o.dst = true) (hm : may all G e o.guard = some true)
    (h : ∀ w, D2 all.toArray m C i w → (execOp (ev e) o).run P w = .ok (.value v) w) (k : MOps2 ro P n all G m C ps K r (put e o.dst v) w) : MOps2 ro P n all G m C ps K ((i, false) :: r) e w := by
  intro ds a ha
  have hoi : all.toArray[i]? = some o := by rw [List.getElem?_toArray, ← nthO_eq]; exact ho
  unfold mixW2
  simp only [hoi]
  exact ⟨v, .inl ⟨may_wanted ha hm, fun w hw => by rw [ha.eval]; exact h w hw⟩, k ds _ (ha.put _ _ hd)⟩
theorem s_passes {i : Nat} {o : Oper} (ho : nthO all i = some o) (hd : dOk n o.dst = true) (hm : may all G e o.guard = some false)
    (k : MOps2 ro P n all G m C ps K r (put e o.dst undef) w) : MOps2 ro P n all G m C ps K ((i, false) :: r) e w := by
  intro ds a ha
  have hoi : all.toArray[i]? = some o := by rw [List.getElem?_toArray, ← nthO_eq]; exact ho
  unfold mixW2
  simp only [hoi]
  exact ⟨undef, .inr ⟨may_wanted ha hm, rfl⟩, k ds _ (ha.put _ _ hd)⟩
theorem s_run' : ∀ (l : List (Nat × Bool)) (cs : List Prop) (e : Env), AllP (runM P n all G l cs e).1 →
    AllP cs ∧ (MOps2 ro P n all G m C ps K (runM P n all G l cs e).2.2 (runM P n all G l cs e).2.1 w → MOps2 ro P n all G m C ps K l e w)
  | [], cs, e, h => ⟨h, fun k => k⟩
  | (i, true) :: l, cs, e, h => ⟨h, fun k => k⟩
  | (i, false) :: l, cs, e, h => by
    revert h
    rw [runM]
    cases ho : nthO all i with
    | none => exact fun h => ⟨h, fun k => k⟩
    | some o =>
      obtain ⟨dst, op, ty, pos, after, guard⟩ := o
      dsimp only
      cases hd : dOk n dst with
      | false => exact fun h => ⟨h, fun k => k⟩
      | true =>
        cases hm : may all G e guard with
        | none => exact fun h => ⟨h, fun k => k⟩
        | some mm =>
          cases mm with
          | false =>
            intro h
            have ih := s_run' l cs _ h
            exact ⟨ih.1, fun k => s_passes ho hd hm (ih.2 k)⟩
          | true =>
            dsimp only
            cases hp : pureOp P e op with
            | none => exact fun h => ⟨h, fun k => k⟩
            | some rr =>
              obtain ⟨c, v⟩ := rr
              cases c with
              | none =>
                intro h
                have ih := s_run' l cs _ h
                exact ⟨ih.1, fun k => s_does ho hd hm (fun _ _ => pureOp_sound (o := ⟨dst, op, ty, pos, after, guard⟩) hp trivial) (ih.2 k)⟩
              | some c =>
                intro h
                have ih := s_run' l (c :: cs) _ h
                exact ⟨ih.1.tail, fun k => s_does ho hd hm (fun _ _ => pureOp_sound (o := ⟨dst, op, ty, pos, after, guard⟩) hp ih.1.head) (ih.2 k)⟩
theorem s_run {cs : List Prop} {e' : Env} {l l' : List (Nat × Bool)} (h : runM P n all G l [] e = (cs, e', l')) (_hl : ltM l' l = true) (hc : AllP cs) (k : MOps2 ro P n all G m C ps K l' e' w) : MOps2 ro P n all G m C ps K l e w := by
  have := s_run' (ro := ro) (P := P) (n := n) (all := all) (G := G) (m := m) (C := C) (ps := ps) (K := K) (w := w) l [] e (by rw [h]; exact hc)
  rw [h] at this
  exact this.2 k
theorem s_load {i : Nat} {dst : Option Tmp} {ty : TypeId} {pos : String} {after : Array Edge} {g : Option (Nat × Bool)} {t : TypeId} {x : Operand} {b off : Nat} {d : TypeDesc} {v : Value} (ho : nthO all i = some ⟨dst, .load t x, ty, pos, after, g⟩)
    (hp : ev e x = .pointer (some ⟨b, off, none⟩)) (hwt : waitsB all.toArray m i = true) (hc : ∀ w, C w → w.cell? ⟨b, off, none⟩ = some v) (hu : P.underlying t = some d) (ha : aggD d = false) (hd : dOk n dst = true) (hm : may all G e g = some true)
    (k : MOps2 ro P n all G m C ps K r (put e dst v) w) : MOps2 ro P n all G m C ps K ((i, false) :: r) e w :=
  s_does ho hd hm (fun w hw => exec_load hp hu ha (hc w (hw hwt))) k
abbrev so := @s_run
abbrev sn := @s_nil
end Go.Vc
/- Stable sorting, plain: numbers by a key, and then by themselves; the parts of a symmetric merge. -/
namespace Go.Vc
/-- by the key, then by the number -/
def LtK (d : Nat → Int) (x y : Nat) : Prop := d x < d y ∨ (d x = d y ∧ x < y)
theorem LtK.trans {d : Nat → Int} {x y z : Nat} (h : LtK d x y) (k : LtK d y z) : LtK d x z := by
  unfold LtK at *; omega
theorem LtK.irrefl {d : Nat → Int} {x : Nat} : ¬ LtK d x x := by unfold LtK; omega
theorem LtK.asymm {d : Nat → Int} {x y : Nat} (h : LtK d x y) : ¬ LtK d y x := by unfold LtK at *; omega
abbrev Srt (d : Nat → Int) (l : List Nat) : Prop := l.Pairwise (LtK d)
/-- two sorted rows of the same numbers are one -/
theorem Srt.unique {d : Nat → Int} : ∀ {l m : List Nat}, Srt d l → Srt d m → l.Perm m → l = m
  | [], m, _, _, h => h.symm.eq_nil.symm
  | x :: l, [], _, _, h => by cases h.eq_nil
  | x :: l, y :: m, hl, hm, h => by
    have hl' := List.pairwise_cons.1 hl
    have hm' := List.pairwise_cons.1 hm
    have e : x = y := by
      have hx : x ∈ y :: m := h.subset (by simp)
      have hy : y ∈ x :: l := h.symm.subset (by simp)
      rcases List.mem_cons.1 hx with e | hx
      · exact e
      · rcases List.mem_cons.1 hy with e | hy
        · exact e.symm
        · exact absurd (hl'.1 _ hy) (hm'.1 _ hx).asymm
    subst e
    rw [Srt.unique hl'.2 hm'.2 (List.Perm.cons_inv h)]
/-- where every number of the first stands ahead of every number of the second -/
def Ahead (u v : List Nat) : Prop := ∀ x ∈ u, ∀ y ∈ v, x < y
theorem Srt.append {d : Nat → Int} {u v : List Nat} (hu : Srt d u) (hv : Srt d v) (h : ∀ x ∈ u, ∀ y ∈ v, LtK d x y) : Srt d (u ++ v) := List.pairwise_append.2 ⟨hu, hv, h⟩
theorem srt_get {d : Nat → Int} {l : List Nat} (h : Srt d l) {i j x y : Nat} (hij : i < j) (hi : l[i]? = some x) (hj : l[j]? = some y) : LtK d x y := by
  have hi' := List.getElem?_eq_some_iff.1 hi
  have hj' := List.getElem?_eq_some_iff.1 hj
  obtain ⟨h1, rfl⟩ := hi'
  obtain ⟨h2, rfl⟩ := hj'
  exact List.pairwise_iff_getElem.1 h i j h1 h2 hij
theorem take_mem {l : List Nat} {k x : Nat} (hx : x ∈ l.take k) : ∃ i, i < k ∧ l[i]? = some x := by
  obtain ⟨i, hi⟩ := List.getElem?_of_mem hx
  have hik : i < k := by
    have := (List.getElem?_eq_some_iff.1 hi).1
    simp at this; omega
  rw [List.getElem?_take_of_lt hik] at hi
  exact ⟨i, hik, hi⟩
theorem drop_mem {l : List Nat} {k x : Nat} (hx : x ∈ l.drop k) : ∃ i, k ≤ i ∧ l[i]? = some x := by
  obtain ⟨i, hi⟩ := List.getElem?_of_mem hx
  rw [List.getElem?_drop] at hi
  exact ⟨k + i, by omega, hi⟩
theorem srt_le {d : Nat → Int} {l : List Nat} (h : Srt d l) {i j x y : Nat} (hij : i ≤ j) (hi : l[i]? = some x) (hj : l[j]? = some y) : x = y ∨ LtK d x y := by
  by_cases c : i = j
  · subst c; rw [hi] at hj; cases hj; exact .inl rfl
  · exact .inr (srt_get h (by omega) hi hj)
theorem LtK.sandwich {d : Nat → Int} {a x y b : Nat} (h1 : a = x ∨ LtK d a x) (h : LtK d x y) (h2 : y = b ∨ LtK d y b) : LtK d a b := by
  rcases h1 with rfl | h1 <;> rcases h2 with rfl | h2
  · exact h
  · exact h.trans h2
  · exact h1.trans h
  · exact (h1.trans h).trans h2
/-- the two rows are cut at s and at e, so that what is left of the cuts goes ahead -/
theorem srt_cut {d : Nat → Int} {u v : List Nat} (hu : Srt d u) (hv : Srt d v) {s e : Nat} (hs : s ≤ u.length) (he : e ≤ v.length)
    (h1 : ∀ x y, 0 < s → u[s - 1]? = some x → v[e]? = some y → LtK d x y)
    (h2 : ∀ x y, 0 < e → v[e - 1]? = some x → u[s]? = some y → LtK d x y) :
    ∀ x ∈ u.take s ++ v.take e, ∀ y ∈ u.drop s ++ v.drop e, LtK d x y := by
  have ex : ∀ {l : List Nat} {i k : Nat} {x : Nat}, l[i]? = some x → k ≤ i → ∃ z, l[k]? = some z := fun {l i k x} hi hk => by
    have := (List.getElem?_eq_some_iff.1 hi).1
    exact ⟨_, List.getElem?_eq_getElem (by omega)⟩
  intro x hx y hy
  rcases List.mem_append.1 hx with hx | hx <;> rcases List.mem_append.1 hy with hy | hy
  · obtain ⟨i, hi, hix⟩ := take_mem hx
    obtain ⟨j, hj, hjy⟩ := drop_mem hy
    exact srt_get hu (by omega) hix hjy
  · obtain ⟨i, hi, hix⟩ := take_mem hx
    obtain ⟨j, hj, hjy⟩ := drop_mem hy
    obtain ⟨z2, hz2⟩ := ex hjy hj
    obtain ⟨z, hz⟩ : ∃ z, u[s - 1]? = some z := ⟨_, List.getElem?_eq_getElem (by omega)⟩
    exact LtK.sandwich (srt_le hu (by omega) hix hz) (h1 z z2 (by omega) hz hz2) (srt_le hv hj hz2 hjy)
  · obtain ⟨i, hi, hix⟩ := take_mem hx
    obtain ⟨j, hj, hjy⟩ := drop_mem hy
    obtain ⟨z2, hz2⟩ := ex hjy hj
    obtain ⟨z, hz⟩ : ∃ z, v[e - 1]? = some z := ⟨_, List.getElem?_eq_getElem (by omega)⟩
    exact LtK.sandwich (srt_le hv (by omega) hix hz) (h2 z z2 (by omega) hz hz2) (srt_le hu hj hz2 hjy)
  · obtain ⟨i, hi, hix⟩ := take_mem hx
    obtain ⟨j, hj, hjy⟩ := drop_mem hy
    exact srt_get hv (by omega) hix hjy
end Go.Vc
