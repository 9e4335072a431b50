/- A region that draws its order: operations that only read may float, those that turn the world stand in one chain. One walk serves every order. -/
import Derived.Test.YtkgngbpkiklckaaGreatDoorQClQAlike6
namespace Go.Vc
open Go
variable {P : Program} {n : Nat} {a : Act} {e : Env} {w : World} {K : EPost} {X : List (Nat × EPost)} {R : EPost} {G : List Nat} {ro : Ro}

section
variable {L : Array Oper} {Fl : World → Prop} {Q : Act → World → Prop} {ds : List Deferred}
/-- a panic, as what holds there wants it -/
def panQ (ro : Ro) (ds : List Deferred) : Exit → Act → World → Prop
  | .panic c, a, w => ∃ v, c = [{ v, recovered := false }] ∧ a.defers = ds ∧ ro.pan v w
  | _, _, _ => False
theorem panQ_lift {ds : List Deferred} (x : Exit) (a : Act) (w : World) (h : panQ ro ds x a w) : lift ro n ds K X R x a w := by cases x <;> first | exact h | exact h.elim
theorem put_defers (a : Act) (d : Option Tmp) (v : Value) : (a.put d v).defers = a.defers := by cases d <;> rfl
theorem panQ_put {ds : List Deferred} {x : Exit} {d : Option Tmp} {v : Value} (h : panQ ro ds x (a.put d v) w) : panQ ro ds x a w := by
  cases x <;> first | (obtain ⟨u, h1, h2, h3⟩ := h; exact ⟨u, h1, (put_defers a d v).symm.trans h2, h3⟩) | exact h.elim
/-- one operation, what stands behind it, no other way out but a panic -/
def opF (ds : List Deferred) (ro : Ro) (P : Program) (L : Array Oper) (i : Nat) (K : Act → World → Prop) (a : Act) (w : World) : Prop :=
  match L[i]? with
  | none => K a w
  | some o => if Region.wanted o (yielded L a.tmps) then o.wpIn (FW ro) 0 P a w K (panQ ro ds) else K (a.put o.dst undef) w
/-- it stands last, and each other one is awaited by a later one -/
def lastB (L : Array Oper) (i : Nat) : Bool :=
  Nat.beq (i + 1) L.size && (List.range i).all fun k => (List.range (i + 1)).any fun m => Nat.blt k m && match L[m]? with
    | some q => bindsOn q k
    | none => false
/-- what is listed has listed what it waits for -/
def Closed (L : Array Oper) (listed : Array Bool) : Prop := ∀ (j : Nat) (q : Oper), L[j]? = some q → listed.getD j false = true → ∀ e ∈ q.after, Region.binds .any e = true → listed.getD e.on false = true
theorem Closed.set {listed : Array Bool} (h : Closed L listed) {i : Nat} (hi : i ∈ Region.ready .any L listed) : Closed L (listed.setIfInBounds i true) := by
  intro j q hq hl e he hb
  by_cases hij : i = j
  · subst hij
    obtain ⟨_, q', hq', hall⟩ := mem_ready.1 hi
    rw [hq] at hq'; cases hq'
    exact getD_set_true (hall e he hb)
  · rw [getD_set_ne false hij] at hl
    exact getD_set_true (h j q hq hl e he hb)
theorem last_listed {listed : Array Bool} (hc : Closed L listed) {i : Nat} (hi : i ∈ Region.ready .any L listed) (hl : lastB L i = true) : ∀ k, k < i → listed.getD k false = true := by
  unfold lastB at hl
  rw [Bool.and_eq_true, List.all_eq_true] at hl
  have key : ∀ d k, i - k = d → k < i → listed.getD k false = true := by
    intro d
    induction d using Nat.strongRecOn with
    | _ d ih =>
      intro k hd hk
      obtain ⟨m, hm, hmk⟩ := List.any_eq_true.1 (hl.2 k (by simpa using hk))
      have hm : m < i + 1 := by simpa using hm
      rw [Bool.and_eq_true] at hmk
      have hlt : k < m := by simpa [Nat.blt_eq] using hmk.1
      cases hq : L[m]? with
      | none => rw [hq] at hmk; simp at hmk
      | some q =>
        rw [hq] at hmk
        obtain ⟨e, he, hbe⟩ := List.any_eq_true.1 hmk.2
        rw [Bool.and_eq_true] at hbe
        have hon : e.on = k := Nat.eq_of_beq_eq_true hbe.2
        rw [← hon]
        by_cases hmi : m = i
        · subst hmi
          obtain ⟨_, q', hq', hall⟩ := mem_ready.1 hi
          rw [hq] at hq'; cases hq'
          exact hall e (by simpa using he) hbe.1
        · exact hc m q hq (ih (i - m) (by omega) m rfl (by omega)) e (by simpa using he) hbe.1
  exact fun k hk => key _ k rfl hk
theorem last_size {i : Nat} (hl : lastB L i = true) : i + 1 = L.size := by
  unfold lastB at hl
  rw [Bool.and_eq_true] at hl
  exact Nat.eq_of_beq_eq_true hl.1
/-- whatever order is picked; as long as something is left the class stands -/
def anyF (ds : List Deferred) (ro : Ro) (P : Program) (L : Array Oper) (Fl : World → Prop) (Q : Act → World → Prop) : Nat → Array Bool → Act → World → Prop
  | 0, listed, a, w => Region.ready .any L listed = [] ∧ Q a w
  | fuel + 1, listed, a, w => (Region.ready .any L listed = [] → Q a w) ∧ ∀ i ∈ Region.ready .any L listed,
      opF ds ro P L i (fun a' w' => (lastB L i = true ∨ Fl w') ∧ anyF ds ro P L Fl Q fuel (listed.setIfInBounds i true) a' w') a w

theorem strictIn {o : Oper} {a : Act} {w : World} {K K' : Act → World → Prop} {Q' : Exit → Act → World → Prop} (hk : ∀ a w, K a w → K' a w) (hZ : ∀ x a w, panQ ro ds x a w → Q' x a w) (h : o.wpIn (FW ro) 0 P a w K (panQ ro ds)) : o.wpIn (FW ro) 0 P a w K' Q' := by
  refine ⟨h.1, ?_⟩
  have h := h.2
  generalize (o.semAt (FW ro).round a.eval).run P w = r at h ⊢
  exact uponIn_mono hk hZ r h
theorem laxIn {o : Oper} {a : Act} {w : World} {K K' : Act → World → Prop} {Q' : Exit → Act → World → Prop} (hk : ∀ a w, K a w → K' a w) (hq : ∀ c a w, Q' (.panic c) a w → panQ ro ds (.panic c) a w) (ho : ∀ a w, ¬ Q' .outgrown a w) (h : o.wpIn (FW ro) 0 P a w K Q') : o.wpIn (FW ro) 0 P a w K' (panQ ro ds) := by
  refine ⟨h.1, ?_⟩
  have h := h.2
  generalize (o.semAt (FW ro).round a.eval).run P w = r at h ⊢
  unfold Oper.uponIn at h ⊢
  split at h <;> first | exact hk _ _ h | exact h.elim | skip
  · refine ⟨h.1, h.2.mono ?_⟩
    intro x w'' hx
    cases x with
    | returned v => exact hk _ _ hx
    | panicked c => exact hq _ _ _ hx
    | outgrown => obtain ⟨a, w, hx⟩ := hx; exact (ho _ _ hx).elim
  · exact ⟨h.1, h.2.mono fun v w'' hx => hk _ _ hx⟩
  · refine ⟨h.1, h.2.mono ?_⟩
    intro x w'' hx
    cases x with
    | returned v => exact hk _ _ hx
    | panicked c => exact hq _ _ _ hx
    | outgrown => obtain ⟨a, w, hx⟩ := hx; exact (ho _ _ hx).elim
  · exact hq _ _ _ h
theorem opF_mono {i : Nat} {K K' : Act → World → Prop} (hk : ∀ a w, K a w → K' a w) (h : opF ds ro P L i K a w) : opF ds ro P L i K' a w := by
  unfold opF at h ⊢
  split
  · rename_i ho; simp only [ho] at h; exact hk _ _ h
  · rename_i o ho
    simp only [ho] at h
    split
    · rename_i hw; simp only [hw, if_true] at h; exact strictIn hk (fun _ _ _ h => h) h
    · rename_i hw; simp only [hw] at h; exact hk _ _ h
theorem anyF_in {Q' : Exit → Act → World → Prop} (hZ : ∀ x a w, panQ ro ds x a w → Q' x a w) (hQ : ∀ a w, Q a w → Q' .normal a w) : ∀ (fuel : Nat) (listed : Array Bool) (a : Act) (w : World), anyF ds ro P L Fl Q fuel listed a w → wpAnyIn (FW ro) 0 P .any L Q' fuel listed a w
  | 0, _, _, _, h => ⟨h.1, hQ _ _ h.2⟩
  | fuel + 1, listed, a, w, h => ⟨fun h0 => hQ _ _ (h.1 h0), fun i hi => by
      have h := h.2 i hi
      unfold opF at h
      unfold wpOpIn
      split
      · rename_i ho; simp only [ho] at h; exact anyF_in hZ hQ _ _ _ _ h.2
      · rename_i o ho
        simp only [ho] at h
        split
        · rename_i hw; simp only [hw, if_true] at h; exact strictIn (fun a w hk => anyF_in hZ hQ _ _ _ _ hk.2) hZ h
        · rename_i hw; simp only [hw] at h; exact ⟨fun _ _ => trivial, anyF_in hZ hQ _ _ _ _ h.2⟩⟩

/-- in this state, in every world of the class, it leaves v and turns nothing -/
def YF (P : Program) (L : Array Oper) (Fl : World → Prop) (o : Oper) (v : Value) (a : Act) : Prop :=
  (Region.wanted o (yielded L a.tmps) = true ∧ ∀ w, Fl w → (execOp a.eval o).run P w = .ok (.value v) w) ∨ (Region.wanted o (yielded L a.tmps) = false ∧ v = undef)
theorem YF.opF {i : Nat} {o : Oper} {v : Value} {K : Act → World → Prop} (hi : L[i]? = some o) (hy : YF P L Fl o v a) (hw : Fl w) (h : K (a.put o.dst v) w) : opF ds ro P L i K a w := by
  unfold Vc.opF
  simp only [hi]
  rcases hy with ⟨hwt, hv⟩ | ⟨hwt, rfl⟩
  · simp only [hwt, if_true]
    refine ⟨fun _ _ => trivial, ?_⟩
    show o.uponIn _ _ _ _ _ _ ((o.semAt ro.round a.eval).run P w)
    rw [semAt_ok (hv w hw) (by intro d hd; cases hd)]
    exact h
  · simp only [hwt, Bool.false_eq_true, if_false]
    exact h
theorem semAt_put (o : Oper) (hs : ∀ cs b, o.op ≠ .select cs b) (hd : ∀ c, o.op ≠ .defer c) (a : Act) (dst : Option Tmp) (v : Value) (h : ∀ d, dst = some d → d ∉ o.looksAt L) : o.semAt ro.round (a.put dst v).eval = o.semAt ro.round a.eval := by
  rw [Oper.semAt_eq ro.round _ o hd, Oper.semAt_eq ro.round _ o hd, execOp_put o hs a dst v h]
theorem YF.keep {o oj : Oper} {v : Value} {a : Act} (hs : ∀ cs b, o.op ≠ .select cs b) (h3 : ∀ d, oj.dst = some d → d ∉ o.looksAt L) (hy : YF P L Fl o v a) (u : Value) : YF P L Fl o v (a.put oj.dst u) := by
  unfold YF at hy ⊢
  rw [execOp_put o hs a oj.dst u h3, wanted_put o a oj.dst u h3]
  exact hy
theorem opF_put {j : Nat} {oi oj : Oper} {v : Value} (hj : L[j]? = some oj) (hap : oi.apart L oj = true) (hsi : ∀ cs b, oi.op ≠ .select cs b) (hsj : ∀ cs b, oj.op ≠ .select cs b) (hdj : ∀ c, oj.op ≠ .defer c)
    {K : Act → World → Prop} {a : Act} {w : World} (hy : YF P L Fl oi v a) (h : opF ds ro P L j K (a.put oi.dst v) w) : opF ds ro P L j (fun a' w' => YF P L Fl oi v a' ∧ K (a'.put oi.dst v) w') a w := by
  obtain ⟨h1, h2, h3⟩ := Oper.apart_spec hap
  unfold opF at *
  simp only [hj] at *
  rw [wanted_put oj a oi.dst v h1] at h
  split
  · rename_i hw
    simp only [hw, if_true] at h
    refine ⟨fun _ _ => trivial, ?_⟩
    have h := h.2
    rw [show (FW ro).round = ro.round from rfl] at h ⊢
    rw [semAt_put oj hsj hdj a oi.dst v h1] at h
    generalize (oj.semAt ro.round a.eval).run P w = r at h ⊢
    cases r with
    | ok x w' =>
      cases x <;> simp only [Oper.uponIn] at h ⊢
      case value u => exact ⟨hy.keep hsi h3 u, by rw [← Act.put_comm a v u h2]; exact h⟩
      case skip => exact ⟨hy.keep hsi h3 _, by rw [← Act.put_comm a v undef h2]; exact h⟩
      case defer d =>
        refine ⟨YF.keep (a := { a with defers := d :: a.defers }) hsi h3 hy _, ?_⟩
        rw [← Act.put_comm _ v undef h2, ← Act.put_defers]
        exact h
      case enter f args =>
        refine ⟨h.1, CallsIn.mono h.2 fun e w'' he => ?_⟩
        cases e with
        | returned u => exact ⟨hy.keep hsi h3 u, by rw [← Act.put_comm a v u h2]; exact he⟩
        | panicked c => exact panQ_put he
        | outgrown => exact he
      case row row args => exact ⟨h.1, RowsIn.mono h.2 fun u w'' he => ⟨hy.keep hsi h3 u, by rw [← Act.put_comm a v u h2]; exact he⟩⟩
      case round l f tmps assign body =>
        refine ⟨h.1, RoundIn.mono h.2 fun e w'' he => ?_⟩
        cases e with
        | returned u => exact ⟨hy.keep hsi h3 u, by rw [← Act.put_comm a v u h2]; exact he⟩
        | panicked c => exact panQ_put he
        | outgrown => exact he
    | halt x w' =>
      cases x <;> simp only [Oper.uponIn] at h ⊢
      exact panQ_put h
  · rename_i hw
    simp only [hw] at h
    exact ⟨hy.keep hsi h3 _, by rw [← Act.put_comm a v undef h2]; exact h⟩

def plainB (L : Array Oper) : Bool := L.all fun o => match o.op with | .select .. => false | .defer _ => false | _ => true
theorem plain_spec (h : plainB L = true) (j : Nat) (o : Oper) (ho : L[j]? = some o) : (∀ cs b, o.op ≠ .select cs b) ∧ ∀ c, o.op ≠ .defer c := by
  have := Array.all_eq_true_iff_forall_mem.1 h o (Array.mem_of_getElem? ho)
  refine ⟨fun cs b heq => ?_, fun c heq => ?_⟩ <;> simp [heq] at this

/-- one that floats may be taken first -/
theorem anyF_first (hP : plainB L = true) {i : Nat} {oi : Oper} {v : Value} (hi : L[i]? = some oi) :
    ∀ (fuel : Nat) (listed : Array Bool) (a : Act) (w : World), listed.size = L.size → Closed L listed → Fl w →
      (∀ j oj, L[j]? = some oj → j ≠ i → listed.getD j true = false → (∀ e ∈ oj.after, Region.binds .any e = true → e.on ≠ i) → oi.apart L oj = true) →
      i ∈ Region.ready .any L listed → YF P L Fl oi v a →
      anyF ds ro P L Fl Q fuel (listed.setIfInBounds i true) (a.put oi.dst v) w → anyF ds ro P L Fl Q (fuel + 1) listed a w := by
  intro fuel
  induction fuel with
  | zero =>
    intro listed a w _ _ hw _ hr hy H
    refine ⟨fun h => (by rw [h] at hr; cases hr), fun j hj => ?_⟩
    by_cases hji : j = i
    · subst hji; exact hy.opF hi hw ⟨.inr hw, H⟩
    · have := ready_mono hj hji
      rw [H.1] at this
      cases this
  | succ fuel ih =>
    intro listed a w hsz hcl hw hfree hr hy H
    refine ⟨fun h => (by rw [h] at hr; cases hr), fun j hj => ?_⟩
    by_cases hji : j = i
    · subst hji; exact hy.opF hi hw ⟨.inr hw, H⟩
    · have h1 := H.2 j (ready_mono hj hji)
      obtain ⟨hjun, oj, hoj, hall⟩ := mem_ready.1 hj
      have hi0 := (mem_ready.1 hr).1
      have hilt : i < L.size := (Array.getElem?_eq_some_iff.1 hi).1
      have hi0' : listed.getD i false = false := by
        simp [Array.getD_eq_getD_getElem?, hsz, hilt] at hi0 ⊢; exact hi0
      have hnot : ∀ e ∈ oj.after, Region.binds .any e = true → e.on ≠ i := fun e he hb heq => by
        have h1 := hall e he hb
        rw [heq, hi0'] at h1; cases h1
      have hpi := plain_spec hP i oi hi
      have hpj := plain_spec hP j oj hoj
      have h2 := opF_put hoj (hfree j oj hoj hji hjun hnot) hpi.1 hpj.1 hpj.2 hy h1
      have hfree' : ∀ k ok, L[k]? = some ok → k ≠ i → (listed.setIfInBounds j true).getD k true = false →
          (∀ e ∈ ok.after, Region.binds .any e = true → e.on ≠ i) → oi.apart L ok = true := fun k ok hk hki hun hno => by
        refine hfree k ok hk hki ?_ hno
        by_cases hjk : j = k
        · subst hjk; exact hjun
        · rw [getD_set_ne true hjk] at hun; exact hun
      refine opF_mono (fun a' w' h3 => ?_) h2
      obtain ⟨hy', hfl, h4⟩ := h3
      have hx : anyF ds ro P L Fl Q fuel ((listed.setIfInBounds j true).setIfInBounds i true) (a'.put oi.dst v) w' := by
        rw [Array.setIfInBounds_comm _ _ hji]; exact h4
      by_cases hfw : Fl w'
      · exact ⟨.inr hfw, ih (listed.setIfInBounds j true) a' w' (by simp [hsz]) (hcl.set hj) hfw hfree' (ready_mono hr (Ne.symm hji)) hy' hx⟩
      · exfalso
        rcases hfl with hfl | hfl
        · have h1 := last_size hfl
          have h2 := last_listed hcl hj hfl i (by omega)
          rw [hi0'] at h2; cases h2
        · exact hfw hfl

/-! ### The walk -/
def mixW (ds : List Deferred) (ro : Ro) (P : Program) (L : Array Oper) (Fl : World → Prop) (Q : Act → World → Prop) : List (Nat × Bool) → Act → World → Prop
  | [], a, w => Q a w
  | (i, b) :: r, a, w => match L[i]? with
    | none => False
    | some o => if b then opF ds ro P L i (fun a w => (lastB L i = true ∨ Fl w) ∧ mixW ds ro P L Fl Q r a w) a w
      else ∃ v, YF P L Fl o v a ∧ mixW ds ro P L Fl Q r (a.put o.dst v) w
def onlyB : List Nat → Nat → Bool
  | [j], i => Nat.beq j i
  | _, _ => false
def mixB (L : Array Oper) : List (Nat × Bool) → Array Bool → Bool
  | [], listed => (Region.ready .any L listed).isEmpty
  | (i, false) :: r, listed => (Region.ready .any L listed).contains i && Region.free .any L listed i && mixB L r (listed.setIfInBounds i true)
  | (i, true) :: r, listed => onlyB (Region.ready .any L listed) i && mixB L r (listed.setIfInBounds i true)
theorem onlyB_eq {l : List Nat} {i : Nat} (h : onlyB l i = true) : l = [i] := by
  match l, h with
  | [j], h => rw [Nat.eq_of_beq_eq_true h]
theorem mix_any (hP : plainB L = true) : ∀ (ord : List (Nat × Bool)) (listed : Array Bool) (a : Act) (w : World), listed.size = L.size → Closed L listed → (Fl w ∨ ord = []) → mixB L ord listed = true → mixW ds ro P L Fl Q ord a w → anyF ds ro P L Fl Q ord.length listed a w
  | [], listed, a, w, _, _, _, hB, h => ⟨by simpa [mixB] using hB, h⟩
  | (i, b) :: r, listed, a, w, hsz, hcl, hw, hB, h => by
    have hwf : Fl w := hw.resolve_right (by simp)
    unfold mixW at h
    cases ho : L[i]? with
    | none => simp only [ho] at h
    | some o =>
      simp only [ho] at h
      cases b with
      | false =>
        simp only [mixB, Bool.and_eq_true] at hB
        obtain ⟨⟨hr, hf⟩, hB'⟩ := hB
        simp only [Bool.false_eq_true, if_false] at h
        obtain ⟨v, hy, hK⟩ := h
        exact anyF_first hP ho r.length listed a w hsz hcl hwf (Region.free_spec ho hf) (by simpa using hr) hy (mix_any hP r _ _ w (by simp [hsz]) (hcl.set (by simpa using hr)) (.inl hwf) hB' hK)
      | true =>
        simp only [mixB, Bool.and_eq_true] at hB
        obtain ⟨hr, hB'⟩ := hB
        have hr := onlyB_eq hr
        simp only [if_true] at h
        refine ⟨fun h0 => (by rw [h0] at hr; cases hr), fun j hj => ?_⟩
        rw [hr] at hj
        have hji : j = i := by simpa using hj
        subst hji
        refine opF_mono (fun a' w' h3 => ⟨h3.1, ?_⟩) h
        rcases h3.1 with hl | hf
        · -- nothing is left
          have hnil : r = [] := by
            cases r with
            | nil => rfl
            | cons p r =>
              exfalso
              obtain ⟨k, bk⟩ := p
              have hk : k ∈ Region.ready .any L (listed.setIfInBounds j true) := by
                cases bk with
                | false => simp only [mixB, Bool.and_eq_true] at hB'; simpa using hB'.1.1
                | true => simp only [mixB, Bool.and_eq_true] at hB'; rw [onlyB_eq hB'.1]; simp
              obtain ⟨hk0, ok, hok, _⟩ := mem_ready.1 hk
              have hjr : j ∈ Region.ready .any L listed := by rw [hr]; simp
              have hklt : k < L.size := (Array.getElem?_eq_some_iff.1 hok).1
              have hkj : k ≠ j := by
                rintro rfl
                simp [Array.getD_eq_getD_getElem?, hsz, hklt] at hk0
              have h1 := last_size hl
              have h5 := last_listed hcl hjr hl k (by omega)
              rw [getD_set_ne true (Ne.symm hkj)] at hk0
              simp [Array.getD_eq_getD_getElem?, hsz, hklt] at hk0 h5
              rw [h5] at hk0; cases hk0
          exact mix_any hP r _ a' w' (by simp [hsz]) (hcl.set (by rw [hr]; simp)) (.inr hnil) hB' h3.2
        · exact mix_any hP r _ a' w' (by simp [hsz]) (hcl.set (by rw [hr]; simp)) (.inl hf) hB' h3.2
end

/-! ### The walk over environments -/
/-- operations of a region in this order; (i, true): it may turn the world -/
def MOps (ro : Ro) (P : Program) (n : Nat) (all : List Oper) (_G : List Nat) (Fl : World → Prop) (K : EPost) (ord : List (Nat × Bool)) (e : Env) (w : World) : Prop :=
  ∀ ds a, Fit n ds a e → mixW ds ro P all.toArray Fl (fun a w => ∃ e, Fit n ds a e ∧ K e w) ord a w
variable {all : List Oper} {Fl : World → Prop} {r : List (Nat × Bool)}
theorem r_mix {id : Nat} (Fl : World → Prop) (ord : List (Nat × Bool)) (hm : P.follows .mixedOrders = true) (hP : plainB all.toArray = true) (hB : mixB all.toArray ord (Array.replicate all.toArray.size false) = true) (hl : Nat.beq ord.length all.toArray.size = true) (hw : Fl { w with drawn := w.drawn + 1 })
    (h : MOps ro P n all [] Fl K ord e { w with drawn := w.drawn + 1 }) : Wp ro P n (.region id all.toArray true) K X R e w := by
  intro ds a ha
  refine wpIn_region_any hm ?_
  have h1 := mix_any (ro := ro) hP ord (Array.replicate all.toArray.size false) a { w with drawn := w.drawn + 1 } (by simp) (fun j q hq hl => by
    rw [Array.getD_eq_getD_getElem?, Array.getElem?_replicate] at hl
    split at hl <;> simp at hl) (.inl hw) hB (h ds a ha)
  rw [Nat.eq_of_beq_eq_true hl] at h1
  exact anyF_in panQ_lift (fun a w hq => hq) _ _ _ _ h1
theorem x_nil (h : K e w) : MOps ro P n all G Fl K [] e w := fun _ _ ha => ⟨e, ha, h⟩
/-- an operation that may turn the world: by the rules for operations in the order of the text -/
theorem x_act {i : Nat} {o : Oper} (ho : nthO all i = some o) (h : Ops ro P n all G (fun e w => (lastB all.toArray i = true ∨ Fl w) ∧ MOps ro P n all G Fl K r e w) [o] e w) : MOps ro P n all G Fl K ((i, true) :: r) e w := by
  intro ds a ha
  have hoi : all.toArray[i]? = some o := by rw [List.getElem?_toArray, ← nthO_eq]; exact ho
  unfold mixW
  simp only [hoi, if_true]
  have h1 := h [] (fun _ _ => False) ds a ha
  unfold wpListIn at h1
  unfold opF
  simp only [hoi]
  split
  · rename_i hw
    rw [if_pos hw] at h1
    refine laxIn (fun a w hk => ?_) (fun c a w hq => hq) (fun a w hq => hq) h1
    obtain ⟨e', hf, hfl, hk⟩ := hk
    exact ⟨hfl, hk ds a hf⟩
  · rename_i hw
    rw [if_neg hw] at h1
    obtain ⟨e', hf, hfl, hk⟩ := h1.2
    exact ⟨hfl, hk ds _ hf⟩
theorem x_does {i : Nat} {o : Oper} {v : Value} (ho : nthO all i = some o) (hd : dOk n o.dst = true) (hm : may all G e o.guard = some true)
    (h : ∀ w, Fl w → (execOp (ev e) o).run P w = .ok (.value v) w) (k : MOps ro P n all G Fl K r (put e o.dst v) w) : MOps ro P n all G Fl K ((i, false) :: r) e w := by
  intro ds a ha
  have hoi : all.toArray[i]? = some o := by rw [List.getElem?_toArray, ← nthO_eq]; exact ho
  unfold mixW
  simp only [hoi]
  exact ⟨v, .inl ⟨may_wanted ha hm, fun w hw => by rw [ha.eval]; exact h w hw⟩, k ds _ (ha.put _ _ hd)⟩
theorem x_passes {i : Nat} {o : Oper} {b : Bool} (ho : nthO all i = some o) (hd : dOk n o.dst = true) (hm : may all G e o.guard = some false) (hb : b = true → Fl w)
    (k : MOps ro P n all G Fl K r (put e o.dst undef) w) : MOps ro P n all G Fl K ((i, b) :: r) e w := by
  intro ds a ha
  have hoi : all.toArray[i]? = some o := by rw [List.getElem?_toArray, ← nthO_eq]; exact ho
  unfold mixW
  simp only [hoi]
  cases b with
  | false => exact ⟨undef, .inr ⟨may_wanted ha hm, rfl⟩, k ds _ (ha.put _ _ hd)⟩
  | true =>
    simp only [if_true]
    unfold opF
    simp only [hoi, may_wanted ha hm]
    exact ⟨.inr (hb rfl), k ds _ (ha.put _ _ hd)⟩
def runM (P : Program) (n : Nat) (all : List Oper) (G : List Nat) : List (Nat × Bool) → List Prop → Env → List Prop × Env × List (Nat × Bool)
  | [], cs, e => (cs, e, [])
  | (i, true) :: r, cs, e => (cs, e, (i, true) :: r)
  | (i, false) :: r, cs, e =>
    match nthO all i with
    | some ⟨dst, op, ty, pos, after, guard⟩ =>
      (match dOk n dst, may all G e guard with
      | true, some true => (match pureOp P e op with
        | some (none, v) => runM P n all G r cs (put e dst v)
        | some (some c, v) => runM P n all G r (c :: cs) (put e dst v)
        | none => (cs, e, (i, false) :: r))
      | true, some false => runM P n all G r cs (put e dst undef)
      | _, _ => (cs, e, (i, false) :: r))
    | none => (cs, e, (i, false) :: r)
theorem x_run' : ∀ (l : List (Nat × Bool)) (cs : List Prop) (e : Env), AllP (runM P n all G l cs e).1 →
    AllP cs ∧ (MOps ro P n all G Fl K (runM P n all G l cs e).2.2 (runM P n all G l cs e).2.1 w → MOps ro P n all G Fl K l e w)
  | [], cs, e, h => ⟨h, fun k => k⟩
  | (i, true) :: l, cs, e, h => ⟨h, fun k => k⟩
  | (i, false) :: l, cs, e, h => by
    revert h
    rw [runM]
    cases ho : nthO all i with
    | none => exact fun h => ⟨h, fun k => k⟩
    | some o =>
      obtain ⟨dst, op, ty, pos, after, guard⟩ := o
      dsimp only
      cases hd : dOk n dst with
      | false => exact fun h => ⟨h, fun k => k⟩
      | true =>
        cases hm : may all G e guard with
        | none => exact fun h => ⟨h, fun k => k⟩
        | some m =>
          cases m with
          | false =>
            intro h
            have ih := x_run' l cs _ h
            exact ⟨ih.1, fun k => x_passes ho hd hm (fun h => by cases h) (ih.2 k)⟩
          | true =>
            dsimp only
            cases hp : pureOp P e op with
            | none => exact fun h => ⟨h, fun k => k⟩
            | some rr =>
              obtain ⟨c, v⟩ := rr
              cases c with
              | none =>
                intro h
                have ih := x_run' l cs _ h
                exact ⟨ih.1, fun k => x_does ho hd hm (fun _ _ => pureOp_sound (o := ⟨dst, op, ty, pos, after, guard⟩) hp trivial) (ih.2 k)⟩
              | some c =>
                intro h
                have ih := x_run' l (c :: cs) _ h
                exact ⟨ih.1.tail, fun k => x_does ho hd hm (fun _ _ => pureOp_sound (o := ⟨dst, op, ty, pos, after, guard⟩) hp ih.1.head) (ih.2 k)⟩
def ltM : List (Nat × Bool) → List (Nat × Bool) → Bool
  | [], _ :: _ => true
  | _ :: l, _ :: r => ltM l r
  | _, [] => false
theorem x_run {cs : List Prop} {e' : Env} {l l' : List (Nat × Bool)} (h : runM P n all G l [] e = (cs, e', l')) (_hl : ltM l' l = true) (hc : AllP cs) (k : MOps ro P n all G Fl K l' e' w) : MOps ro P n all G Fl K l e w := by
  have := x_run' (ro := ro) (P := P) (n := n) (all := all) (G := G) (Fl := Fl) (K := K) (w := w) l [] e (by rw [h]; exact hc)
  rw [h] at this
  exact this.2 k
/-- a cell that floats -/
theorem x_load {i : Nat} {dst : Option Tmp} {ty : TypeId} {pos : String} {after : Array Edge} {g : Option (Nat × Bool)} {t : TypeId} {x : Operand} {b off : Nat} {d : TypeDesc} {v : Value} (ho : nthO all i = some ⟨dst, .load t x, ty, pos, after, g⟩)
    (hp : ev e x = .pointer (some ⟨b, off, none⟩)) (hc : ∀ w, Fl w → w.cell? ⟨b, off, none⟩ = some v) (hu : P.underlying t = some d) (ha : aggD d = false) (hd : dOk n dst = true) (hm : may all G e g = some true)
    (k : MOps ro P n all G Fl K r (put e dst v) w) : MOps ro P n all G Fl K ((i, false) :: r) e w :=
  x_does ho hd hm (fun w hw => exec_load hp hu ha (hc w hw)) k
theorem MOps.monoK {K' : EPost} {ord : List (Nat × Bool)} (h : MOps ro P n all G Fl K ord e w) (hk : ∀ e w, K e w → K' e w) : MOps ro P n all G Fl K' ord e w := by
  have key : ∀ {ds : List Deferred} {Q Q' : Act → World → Prop} (hq : ∀ a w, Q a w → Q' a w) (ord : List (Nat × Bool)) (a : Act) (w : World), mixW ds ro P all.toArray Fl Q ord a w → mixW ds ro P all.toArray Fl Q' ord a w := by
    intro ds Q Q' hq ord
    induction ord with
    | nil => exact fun a w h => hq a w h
    | cons p r ih =>
      intro a w h
      obtain ⟨i, b⟩ := p
      unfold mixW at h ⊢
      split
      · rename_i ho; simp only [ho] at h
      · rename_i o ho
        simp only [ho] at h
        cases b with
        | true => simp only [if_true] at h ⊢; exact opF_mono (fun a w hk => ⟨hk.1, ih a w hk.2⟩) h
        | false => simp only [Bool.false_eq_true, if_false] at h ⊢; obtain ⟨v, hy, hk⟩ := h; exact ⟨v, hy, ih _ _ hk⟩
  intro ds a ha
  exact key (fun a w ⟨e, hf, hk'⟩ => ⟨e, hf, hk e w hk'⟩) _ _ _ (h ds a ha)
abbrev xo := @x_run
abbrev xn := @x_nil
end Go.Vc
