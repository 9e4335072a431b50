/- lockset: LocksetPlays: the two answers as one, plainly. -/
import Derived.Test.YtkgjibhbhddckaaDoorQClKPlays33
import Derived.Laws.Externs
namespace Go.Vc
open Go Go.Proofs
/-- an access of the reference: where, what, under which locks -/
structure AccR where
  at_ : Int
  ev : Ev
  h : List Nat
def lv0 : LV := ⟨0, 0, none, none, false, 0⟩
def foldV (l : List AccR) : LV := l.foldl (fun v a => accL v a.ev a.h a.at_) lv0
def ofR (A : List AccR) (n : Int) : List AccR := A.filter fun a => decide (a.ev.o = n)
/-- the reference's accesses and the keeper's variables -/
structure RIn (s : Shp) (S : LS) (A : List AccR) : Prop where
  len : S.V.length = s.va.toNat
  V : ∀ (n : Nat) v, S.V[n]? = some v → v = foldV (ofR A n)
  obj : ∀ a ∈ A, 0 ≤ a.ev.o ∧ a.ev.o < s.va
  k : ∀ a ∈ A, a.ev.k = 1 ∨ a.ev.k = 2
  nod : ∀ a ∈ A, a.h.Nodup
  at0 : ∀ a ∈ A, 0 ≤ a.at_
  H : HIn S
  srt : ∀ t, (S.H t).Pairwise (· < ·)
  lo : ∀ t (m : Nat), m ∈ S.H t → (m : Int) < s.lo
def stepA (S : LS) (A : List AccR) (e : Ev) : List AccR := if e.k = 1 ∨ e.k = 2 then A ++ [⟨S.c.n, e, S.H e.t⟩] else A
theorem ofR_snoc (A : List AccR) (a : AccR) (n : Int) : ofR (A ++ [a]) n = ofR A n ++ (if a.ev.o = n then [a] else []) := by
  unfold ofR
  rw [List.filter_append]
  congr 1
  by_cases h : a.ev.o = n <;> simp [h]
theorem foldV_snoc (l : List AccR) (a : AccR) : foldV (l ++ [a]) = accL (foldV l) a.ev a.h a.at_ := by
  unfold foldV; rw [List.foldl_append]; rfl
theorem sorted_nodup {l : List Nat} (h : l.Pairwise (· < ·)) : l.Nodup := h.imp fun h e => by omega
theorem RIn.step {s : Shp} {S : LS} {A : List AccR} {e : Ev} (h : RIn s S A) (hc : canB s S.c e = true) : RIn s (stepL S e s) (stepA S A e) := by
  have hH := h.H.step hc
  have hsrt : ∀ t, ((stepL S e s).H t).Pairwise (· < ·) := fun t => by
    show (eventH S.H e t).Pairwise _
    unfold eventH
    repeat' split
    · exact sorted_withL (h.srt t) _
    · exact h.srt t
    · exact (h.srt t).filter _
    · exact h.srt t
    · exact h.srt t
  have hlo : ∀ t (m : Nat), m ∈ (stepL S e s).H t → (m : Int) < s.lo := fun t m hm => by
    have hm : m ∈ eventH S.H e t := hm
    unfold eventH at hm
    by_cases h5 : e.k = 5
    · obtain ⟨q1, q2, _⟩ := can_lock hc h5
      rw [if_pos h5] at hm
      split at hm
      · rcases mem_withL.1 hm with hm | hm
        · exact h.lo t m hm
        · omega
      · exact h.lo t m hm
    · rw [if_neg h5] at hm
      split at hm
      · split at hm
        · exact h.lo t m (List.mem_filter.1 hm).1
        · exact h.lo t m hm
      · exact h.lo t m hm
  by_cases hrw : e.k = 1 ∨ e.k = 2
  · obtain ⟨o1, o2⟩ := can_acc hc hrw
    have hlt : e.o.toNat < S.V.length := by rw [h.len]; omega
    obtain ⟨v, hv⟩ : ∃ v, S.V[e.o.toNat]? = some v := ⟨_, List.getElem?_eq_getElem hlt⟩
    have eV : (stepL S e s).V = S.V.set e.o.toNat (accL v e (S.H e.t) S.c.n) := by
      show eventV _ _ _ _ = _
      unfold eventV
      rw [if_pos hrw, hv]
    have eA : stepA S A e = A ++ [⟨S.c.n, e, S.H e.t⟩] := by unfold stepA; rw [if_pos hrw]
    rw [eA]
    refine ⟨by rw [eV, List.length_set]; exact h.len, fun n u hu => ?_, fun a ha => ?_, fun a ha => ?_, fun a ha => ?_, fun a ha => ?_, hH, hsrt, hlo⟩
    · rw [eV, List.getElem?_set] at hu
      rw [ofR_snoc]
      by_cases q : e.o.toNat = n
      · rw [if_pos q, if_pos hlt] at hu
        have hu := Option.some.inj hu
        rw [if_pos (show e.o = (n : Int) by omega), foldV_snoc, ← h.V n v (by rw [← q]; exact hv)]
        exact hu.symm
      · rw [if_neg q] at hu
        rw [if_neg (show ¬ e.o = (n : Int) by omega), List.append_nil]
        exact h.V n u hu
    all_goals (rcases List.mem_append.1 ha with ha | ha)
    · exact h.obj a ha
    · simp at ha; subst ha; exact ⟨o1, o2⟩
    · exact h.k a ha
    · simp at ha; subst ha; exact hrw
    · exact h.nod a ha
    · simp at ha; subst ha; exact sorted_nodup (h.srt _)
    · exact h.at0 a ha
    · simp at ha; subst ha; dsimp only; omega
  · have eV : (stepL S e s).V = S.V := by show eventV _ _ _ _ = _; unfold eventV; rw [if_neg hrw]
    have eA : stepA S A e = A := by unfold stepA; rw [if_neg hrw]
    rw [eA]
    exact ⟨by rw [eV]; exact h.len, by rw [eV]; exact h.V, h.obj, h.k, h.nod, h.at0, hH, hsrt, hlo⟩
theorem RIn.start (s : Shp) : RIn s (newLS s) [] := by
  refine ⟨by simp [newLS], fun n v hv => ?_, by simp, by simp, by simp, by simp, fun t m => ?_, fun t => .nil, fun t m hm => ?_⟩
  · exact List.eq_of_mem_replicate (List.mem_of_getElem? hv)
  · show m ∈ [] ↔ (none : Option Int) = some t
    simp
  · have : m ∈ ([] : List Nat) := hm
    simp at this
/-! ### what the reference tells -/
/-- the locks that a thread holds, by their owners -/
def heldR (s : Shp) (c : Ck) (t : Int) : List Nat := (List.range s.lo.toNat).filter fun i => decide (c.O (i : Int) = some t)
theorem sorted_ext2 : ∀ {l m : List Nat}, l.Pairwise (· < ·) → m.Pairwise (· < ·) → (∀ x, x ∈ l ↔ x ∈ m) → l = m
  | [], [], _, _, _ => rfl
  | [], y :: s, _, _, h => by have := (h y).2 (by simp); simp at this
  | x :: r, [], _, _, h => by have := (h x).1 (by simp); simp at this
  | x :: r, y :: s, hl, hm, h => by
    rw [List.pairwise_cons] at hl hm
    have e : x = y := by
      have h1 := (h x).1 (by simp)
      have h2 := (h y).2 (by simp)
      rcases List.mem_cons.1 h1 with e | h1
      · exact e
      · rcases List.mem_cons.1 h2 with e | h2
        · exact e.symm
        · have := hl.1 y h2; have := hm.1 x h1; omega
    subst e
    rw [sorted_ext2 hl.2 hm.2 fun z => ?_]
    have hz := h z
    simp only [List.mem_cons] at hz
    constructor
    · intro hzr
      have := hl.1 z hzr
      rcases hz.1 (.inr hzr) with q | q
      · omega
      · exact q
    · intro hzr
      have := hm.1 z hzr
      rcases hz.2 (.inr hzr) with q | q
      · omega
      · exact q
theorem RIn.held {s : Shp} {S : LS} {A : List AccR} (h : RIn s S A) (t : Int) : heldR s S.c t = S.H t := by
  refine sorted_ext2 ?_ (h.srt t) fun m => ?_
  · exact (List.pairwise_lt_range).filter _
  · unfold heldR
    rw [List.mem_filter, h.H t m]
    simp only [List.mem_range, decide_eq_true_eq]
    exact ⟨fun q => q.2, fun q => ⟨by have := h.lo t m ((h.H t m).2 q); omega, q⟩⟩
/-- both, as the reference does it -/
def bothR (a b : List Nat) : List Nat := a.flatMap fun x => b.filter fun y => decide (x = y)
theorem bothR_inter {a b : List Nat} (h : b.Nodup) : bothR a b = inter a b := by
  have hx : ∀ x, b.filter (fun y => decide (x = y)) = if x ∈ b then [x] else [] := fun x => by
    clear a
    induction b with
    | nil => simp
    | cons y r ih =>
      rw [List.nodup_cons] at h
      rw [List.filter_cons, ih h.2]
      by_cases q : x = y
      · subst q
        rw [if_pos (decide_eq_true rfl), if_neg h.1, if_pos (by simp)]
      · rw [if_neg (by simpa using q)]
        by_cases q2 : x ∈ r
        · rw [if_pos q2, if_pos (by simp [q2])]
        · rw [if_neg q2, if_neg (by simp [q, q2])]
  unfold bothR inter
  induction a with
  | nil => rfl
  | cons x r ih =>
    rw [List.flatMap_cons, List.filter_cons, hx, ih]
    by_cases q : x ∈ b
    · rw [if_pos q, if_pos (by simpa using q)]; rfl
    · rw [if_neg q, if_neg (by simpa using q)]; rfl
theorem inter_self (h : List Nat) : inter h h = h := by
  unfold inter
  exact List.filter_eq_self.2 fun x hx => by simpa using hx
theorem inter_le (a b : List Nat) : (inter a b).length ≤ a.length := List.length_filter_le _ _
def keepsR (l : List AccR) : Option (List Nat) := match l with
  | [] => none
  | a :: _ => some (l.foldl (fun K a => inter K a.h) a.h)
theorem fold_kp : ∀ (l : List AccR) (v : LV) (K : List Nat), v.kp = some K → (l.foldl (fun v a => accL v a.ev a.h a.at_) v).kp = some (l.foldl (fun K a => inter K a.h) K)
  | [], v, K, h => h
  | a :: r, v, K, h => by
    rw [List.foldl_cons, List.foldl_cons]
    exact fold_kp r _ _ (by rw [accL_kp, h]; rfl)
theorem foldV_kp (l : List AccR) : (foldV l).kp = keepsR l := by
  cases l with
  | nil => rfl
  | cons a r =>
    unfold foldV keepsR
    rw [List.foldl_cons]
    rw [fold_kp r _ a.h (by rw [accL_kp]; show some (inter a.h a.h) = _; rw [inter_self])]
    dsimp only
    rw [List.foldl_cons, inter_self]
/-- the view, as the reference works it out -/
structure VR where
  ph : Int
  th : Int
  L : List Nat
  wn : Int
def phR (v : VR) (a : AccR) : VR :=
  if v.ph = 0 then { v with ph := 1, th := a.ev.t, L := [] }
  else if v.ph = 1 ∧ v.th = a.ev.t then v
  else if v.ph = 1 ∧ a.ev.k = 1 then { v with ph := 2, th := 0, L := a.h }
  else if v.ph = 1 then { v with ph := 3, th := 0, L := a.h }
  else if v.ph = 2 ∧ a.ev.k = 1 then { v with ph := 2, th := 0, L := inter v.L a.h }
  else { v with ph := 3, th := 0, L := inter v.L a.h }
def wnR (v : VR) (a : Int) : VR := if v.ph = 3 ∧ v.L.length = 0 ∧ v.wn < 0 then { v with wn := a } else v
def phasesR (l : List AccR) : VR := l.foldl (fun v a => wnR (phR v a) a.at_) ⟨0, 0, [], -1⟩
def relV (v : LV) : VR := ⟨v.ph, v.th, v.ca.getD [], if v.wa then v.at_ else -1⟩
structure VJ (v : LV) : Prop where
  ok : VOk v
  ca : v.ph = 0 ∨ v.ph = 1 → v.ca = none
  th : v.ph = 2 ∨ v.ph = 3 → v.th = 0
  wa : v.wa = true → 0 ≤ v.at_
theorem phases_step {v : LV} (h : VJ v) {a : AccR} (hk : a.ev.k = 1 ∨ a.ev.k = 2) (h0 : 0 ≤ a.at_) : wnR (phR (relV v) a) a.at_ = relV (accL v a.ev a.h a.at_) ∧ VJ (accL v a.ev a.h a.at_) := by
  have hok := accL_ok (e := a.ev) (h := a.h) (a := a.at_) h.ok
  -- the warning
  have warn : ∀ u : LV, (u.wa = true → 0 ≤ u.at_) → wnR (relV u) a.at_ = relV (warnL u a.at_) ∧ (warnL u a.at_).ph = u.ph ∧ (warnL u a.at_).ca = u.ca ∧ (warnL u a.at_).th = u.th ∧ ((warnL u a.at_).wa = true → 0 ≤ (warnL u a.at_).at_) := fun u hu => by
    unfold wnR warnL relV
    dsimp only
    by_cases hc : u.ph = 3 ∧ (u.ca.getD []).length = 0 ∧ u.wa = false
    · rw [if_pos hc, if_pos ⟨hc.1, hc.2.1, by rw [hc.2.2]; simp⟩]
      exact ⟨rfl, rfl, rfl, rfl, fun _ => h0⟩
    · rw [if_neg hc, if_neg]
      · exact ⟨rfl, rfl, rfl, rfl, hu⟩
      · rintro ⟨q1, q2, q3⟩
        refine hc ⟨q1, q2, ?_⟩
        cases hw : u.wa with
        | false => rfl
        | true => rw [hw] at q3; have := hu hw; simp at q3; omega
  -- ownership alone: nothing to warn of
  have plain : ∀ u : LV, u.ph = 1 → wnR (relV u) a.at_ = relV u := fun u hu => by
    unfold wnR relV; dsimp only; rw [if_neg (by omega)]
  have shared : ∀ u : LV, (u.ph = 2 ∨ u.ph = 3) → u.th = 0 → (u.wa = true → 0 ≤ u.at_) → ∀ r : VR, r = relV { u with ca := u.ca.map (inter · a.h), ph := if a.ev.k = 2 then 3 else u.ph } → VOk (sharedL u a.ev a.h a.at_) → wnR r a.at_ = relV (sharedL u a.ev a.h a.at_) ∧ VJ (sharedL u a.ev a.h a.at_) := fun u hp ht hu r hr hvo => by
    have := warn { u with ca := u.ca.map (inter · a.h), ph := if a.ev.k = 2 then 3 else u.ph } hu
    obtain ⟨q1, q2, q3, q4, q5⟩ := this
    have hp2 : (sharedL u a.ev a.h a.at_).ph = 2 ∨ (sharedL u a.ev a.h a.at_).ph = 3 := by
      unfold sharedL; rw [q2]; dsimp only; split; (exact .inr rfl); exact hp
    refine ⟨by rw [hr]; exact q1, hvo, fun hq => by omega, fun _ => ?_, q5⟩
    unfold sharedL; rw [q4]; exact ht
  unfold accL at hok ⊢
  dsimp only at hok ⊢
  by_cases c0 : v.ph = 0
  · rw [if_pos c0] at hok ⊢
    have e : phR (relV v) a = relV { v with kp := some (inter (v.kp.getD a.h) a.h), ph := 1, th := a.ev.t } := by
      unfold phR relV
      dsimp only
      rw [if_pos c0, h.ca (.inl c0)]; rfl
    rw [e]
    exact ⟨plain _ rfl, hok, fun _ => h.ca (.inl c0), fun q => by dsimp only at q; omega, h.wa⟩
  · rw [if_neg c0] at hok ⊢
    by_cases c1 : v.ph = 1
    · rw [if_pos c1] at hok ⊢
      by_cases ct : v.th = a.ev.t
      · rw [if_pos ct] at hok ⊢
        have e : phR (relV v) a = relV { v with kp := some (inter (v.kp.getD a.h) a.h) } := by
          unfold phR
          rw [if_neg (show ¬ (relV v).ph = 0 from c0), if_pos (show (relV v).ph = 1 ∧ (relV v).th = a.ev.t from ⟨c1, ct⟩)]; rfl
        rw [e]
        exact ⟨plain _ c1, hok, fun _ => h.ca (.inr c1), fun q => by dsimp only at q; omega, h.wa⟩
      · rw [if_neg ct] at hok ⊢
        refine shared { ph := 2, th := 0, kp := some (inter (v.kp.getD a.h) a.h), ca := some a.h, wa := v.wa, at_ := v.at_ } (.inl rfl) rfl h.wa _ ?_ hok
        unfold phR
        rw [if_neg (show ¬ (relV v).ph = 0 from c0), if_neg (show ¬ ((relV v).ph = 1 ∧ (relV v).th = a.ev.t) from fun q => ct q.2)]
        rcases hk with hk | hk
        · rw [if_pos (show (relV v).ph = 1 ∧ a.ev.k = 1 from ⟨c1, hk⟩)]
          unfold relV
          dsimp only
          rw [if_neg (show ¬ a.ev.k = 2 by omega)]
          show VR.mk 2 0 a.h _ = VR.mk 2 0 (inter a.h a.h) _
          rw [inter_self]
        · rw [if_neg (show ¬ ((relV v).ph = 1 ∧ a.ev.k = 1) from fun q => by omega), if_pos (show (relV v).ph = 1 from c1)]
          unfold relV
          dsimp only
          rw [if_pos hk]
          show VR.mk 3 0 a.h _ = VR.mk 3 0 (inter a.h a.h) _
          rw [inter_self]
    · rw [if_neg c1] at hok ⊢
      have hp : v.ph = 2 ∨ v.ph = 3 := by
        rcases h.ok with q | q | ⟨q, _⟩
        · exact absurd q c0
        · exact absurd q c1
        · exact q
      refine shared { v with kp := some (inter (v.kp.getD a.h) a.h) } hp (h.th hp) h.wa _ ?_ hok
      have eL : (Option.map (fun x => inter x a.h) v.ca).getD [] = inter (v.ca.getD []) a.h := by cases v.ca <;> rfl
      unfold phR
      rw [if_neg (show ¬ (relV v).ph = 0 from c0), if_neg (show ¬ ((relV v).ph = 1 ∧ (relV v).th = a.ev.t) from fun q => c1 q.1), if_neg (show ¬ ((relV v).ph = 1 ∧ a.ev.k = 1) from fun q => c1 q.1), if_neg (show ¬ (relV v).ph = 1 from c1)]
      have ht0 := h.th hp
      rcases hk with hk | hk
      · by_cases h2 : v.ph = 2
        · rw [if_pos (show (relV v).ph = 2 ∧ a.ev.k = 1 from ⟨h2, hk⟩)]
          unfold relV
          dsimp only
          rw [if_neg (show ¬ a.ev.k = 2 by omega), eL, ht0, h2]
        · rw [if_neg (show ¬ ((relV v).ph = 2 ∧ a.ev.k = 1) from fun q => h2 q.1)]
          unfold relV
          dsimp only
          rw [if_neg (show ¬ a.ev.k = 2 by omega), eL, ht0, show v.ph = 3 by omega]
      · rw [if_neg (show ¬ ((relV v).ph = 2 ∧ a.ev.k = 1) from fun q => by omega)]
        unfold relV
        dsimp only
        rw [if_pos hk, eL, ht0]
theorem phases_fold : ∀ (l : List AccR) (v : LV), VJ v → (∀ a ∈ l, (a.ev.k = 1 ∨ a.ev.k = 2) ∧ 0 ≤ a.at_) → l.foldl (fun v a => wnR (phR v a) a.at_) (relV v) = relV (l.foldl (fun v a => accL v a.ev a.h a.at_) v) ∧ VJ (l.foldl (fun v a => accL v a.ev a.h a.at_) v)
  | [], v, h, _ => ⟨rfl, h⟩
  | a :: r, v, h, ha => by
    obtain ⟨h1, h2⟩ := phases_step h (ha a (by simp)).1 (ha a (by simp)).2
    rw [List.foldl_cons, List.foldl_cons, h1]
    exact phases_fold r _ h2 fun b hb => ha b (by simp [hb])
theorem phases_rel {l : List AccR} (h : ∀ a ∈ l, (a.ev.k = 1 ∨ a.ev.k = 2) ∧ 0 ≤ a.at_) : phasesR l = relV (foldV l) ∧ VJ (foldV l) :=
  phases_fold l lv0 ⟨.inl rfl, fun _ => rfl, fun q => by simp [lv0] at q, fun q => by simp [lv0] at q⟩ h
theorem RIn.view {s : Shp} {S : LS} {A : List AccR} (h : RIn s S A) {n : Nat} {v : LV} (hv : S.V[n]? = some v) : phasesR (ofR A n) = relV v ∧ VJ v := by
  rw [h.V n v hv]
  refine phases_rel fun a ha => ?_
  have ha := (List.mem_filter.1 ha).1
  exact ⟨h.k a ha, h.at0 a ha⟩
theorem RIn.keeps {s : Shp} {S : LS} {A : List AccR} (h : RIn s S A) {n : Nat} {v : LV} (hv : S.V[n]? = some v) : keepsR (ofR A n) = v.kp := by
  rw [h.V n v hv, foldV_kp]
theorem RIn.none {s : Shp} {S : LS} {A : List AccR} (h : RIn s S A) {n : Int} (hn : n < 0 ∨ s.va ≤ n) : ofR A n = [] := by
  rw [List.eq_nil_iff_forall_not_mem]
  intro a ha
  obtain ⟨h1, h2⟩ := List.mem_filter.1 ha
  have h2 := of_decide_eq_true h2
  have := h.obj a h1
  omega
end Go.Vc
/- clones: maps.Clone, slices.Clone of what a checker and a keeper hold. -/
namespace Go.Vc
open Go Go.Proofs
set_option maxRecDepth 10000
section
variable {P : Program} {n : Nat} {e : Env} {w : World} {K : Env → World → Prop} {all : List Oper} {G : List Nat} {ro : Option Nat}
variable {dst : Option Tmp} {ty : TypeId} {pos : String} {after : Array Edge} {g : Option (Nat × Bool)} {l : List Oper} {t xT : TypeId} {x y : Operand}
theorem o_mkIfMap {k v : TypeId} {u : Value} (hx : ev e x = u) (hu : P.underlying t = some (.map k v)) (hd : dOk n dst = true) (hm : may all G e g = some true)
    (q : Ops ro P n all G K l (put e dst (.iface t u)) w) : Ops ro P n all G K (⟨dst, .makeInterface t x, ty, pos, after, g⟩ :: l) e w :=
  ops_does hd hm (by simp [execOp, Instr.makeInterface, hx, run_underlying hu]) q
theorem o_asMap {k v : TypeId} {u : Value} (hx : ev e x = .iface t u) (hu : P.underlying t = some (.map k v)) (hd : dOk n dst = true) (hm : may all G e g = some true)
    (q : Ops ro P n all G K l (put e dst u) w) : Ops ro P n all G K (⟨dst, .typeAssert x xT t false, ty, pos, after, g⟩ :: l) e w :=
  ops_does hd hm (by simp [execOp, Instr.typeAssert, hx, run_underlying hu, Result.andThen]) q
/-- maps.clone: a new block with the same entries -/
theorem o_mapsClone {f : FuncId} {fn : Func} {m : Nat} {F : Int → Option Value} {args : Array Operand} {ts : Array TypeId} {iT : TypeId} (hf : P.funcs[f]? = some fn) (hname : (fn.name == "runtime.NumGoroutine") = false)
    (hb : fn.body.isNone = true) (hn : Extern.findNext fn = none) (he : Extern.find fn = some Extern.MapsClone.clone) (ha : args.toList.map (ev e) = [.iface iT (.map (some m))]) (hmp : MapI w m F)
    (hd : dOk n dst = true) (hm : may all G e g = some true)
    (q : ∀ b w', b = w.heap.size → Kp [] w w' → MapI w' b F → Ops ro P n all G K l (put e dst (.iface iT (.map (some b)))) w') : Ops ro P n all G K (⟨dst, .call ⟨.value (.func f), args, ts⟩, ty, pos, after, g⟩ :: l) e w := by
  obtain ⟨es, clock, h1, h2⟩ := hmp
  refine ops_does (v := .iface iT (.map (some w.heap.size))) (w' := w.alloc (.map es clock)) hd hm ?_ (q _ _ rfl ((upd_alloc w _).kp [] (.inr (Nat.le_refl _))) ⟨es, clock, (upd_alloc w _).at_, h2⟩)
  have e1 : args.map (ev e) = #[.iface iT (.map (some m))] := by apply Array.ext'; simp [ha]
  have e2 : (Extern.MapsClone.clone #[.iface iT (.map (some m))]).run P w = .ok (.iface iT (.map (some w.heap.size))) (w.alloc (.map es clock)) := by
    have q : Extern.MapsClone.clone #[.iface iT (.map (some m))] = (getObj m >>= fun o => match o with
      | .map entries clock => (newObj (.map entries clock) >>= fun n => pure (.iface iT (.map (some n))))
      | _ => stuck "maps.clone: a map expected") := rfl
    rw [q]
    simp [run_getMap h1, Result.andThen, go_sem]
  have e3 := run_callFunc_extern hf hname hb hn he #[.iface iT (.map (some m))] w
  rw [e2] at e3
  simp only [Result.andThen] at e3
  simp only [execOp, resolve, Sem.run_bind, ev, Deferred.ofValue, Sem.run_pure, Result.andThen_ok, invoke]
  simp only [e1, Array.append_empty, Array.empty_append]
  exact e3
end
variable {w : World}
set_option maxHeartbeats 800000 in
theorem CloneT_ret {m : Nat} {F : Int → Option Value} (h : MapI w m F) : Ret Tryd.prog 77 [.map (some m)] w (fun v w' => ∃ b, v = .map (some b) ∧ w.heap.size ≤ b ∧ MapI w' b F ∧ Kp [] w w') := by
  refine enter Tryd.call77 Tryd.func77 rfl rfl rfl rfl ?_
  (repeat first|refine zA ?_|refine zB ?_|refine zg ?_|refine zo rfl rfl trivial ?_|refine zn ?_|refine zk ?_|refine zf rfl ?_)
  refine o_mkIfMap rfl rfl rfl rfl ?_
  refine o_mapsClone Tryd.func98 (by kernel_rfl) (by kernel_rfl) (by kernel_rfl) (by kernel_rfl) rfl h rfl rfl ?_
  intro b w1 hb k1 h1
  refine o_asMap rfl rfl rfl rfl ?_
  (repeat first|refine zo rfl rfl trivial ?_|refine zn ?_|refine zr ?_)
  exact ⟨_, rfl, b, rfl, by omega, h1, k1⟩
set_option maxHeartbeats 800000 in
theorem CloneO_ret {m : Nat} {F : Int → Option Value} (h : MapI w m F) : Ret Tryd.prog 78 [.map (some m)] w (fun v w' => ∃ b, v = .map (some b) ∧ w.heap.size ≤ b ∧ MapI w' b F ∧ Kp [] w w') := by
  refine enter Tryd.call78 Tryd.func78 rfl rfl rfl rfl ?_
  (repeat first|refine zA ?_|refine zB ?_|refine zg ?_|refine zo rfl rfl trivial ?_|refine zn ?_|refine zk ?_|refine zf rfl ?_)
  refine o_mkIfMap rfl rfl rfl rfl ?_
  refine o_mapsClone Tryd.func98 (by kernel_rfl) (by kernel_rfl) (by kernel_rfl) (by kernel_rfl) rfl h rfl rfl ?_
  intro b w1 hb k1 h1
  refine o_asMap rfl rfl rfl rfl ?_
  (repeat first|refine zo rfl rfl trivial ?_|refine zn ?_|refine zr ?_)
  exact ⟨_, rfl, b, rfl, by omega, h1, k1⟩
set_option maxHeartbeats 800000 in
theorem CloneOp_ret {ad : Option Addr} {l : List (Int × Int)} {cap : Nat} (h : ReadS w ad (opsC l)) (hl : l.length ≤ 1048576) :
    Ret Tryd.prog 79 [.slice ad l.length cap] w (fun v w' => ∃ ad' cap', v = .slice ad' l.length cap' ∧ OwnS w' 118 2 ad' l.length cap' (opsC l) ∧ Kp [] w w' ∧ ∀ b, b ∈ blkOf ad' → w.heap.size ≤ b) := by
  have hlen := opsC_len l
  refine enter Tryd.call79 Tryd.func79 rfl rfl rfl rfl ?_
  (repeat first|refine zA ?_|refine zB ?_|refine zg ?_|refine zo rfl rfl trivial ?_|refine zn ?_)
  cases ad with
  | none =>
    have h0 : opsC l = [] := by simpa [ReadS] using h
    have hl0 : l = [] := by
      apply List.eq_nil_of_length_eq_zero
      rw [h0] at hlen; simp at hlen; omega
    subst hl0
    (repeat first|refine zA ?_|refine zg ?_|refine zo rfl rfl trivial ?_|refine zn ?_|refine zr ?_|refine zt rfl ?_)
    exact ⟨_, rfl, none, 0, rfl, ownS_nil _ _ _, Kp.refl _ _, by simp [blkOf]⟩
  | some a =>
    (repeat first|refine zA ?_|refine zg ?_|refine zo rfl rfl trivial ?_|refine zn ?_|refine zk ?_|refine zf rfl ?_)
    refine o_buildSlice0 rfl rfl rfl rfl ?_
    intro b w1 hb hu1
    have k1 : Kp [] w w1 := hu1.kp [] (.inr (by omega))
    have ho1 : OwnS w1 118 2 (some ⟨b, 0, none⟩) 0 0 [] := ⟨rfl, rfl, rfl, Nat.le_refl _, by simp [maxLen], [], hu1.blk, rfl⟩
    (repeat refine zo rfl rfl trivial ?_)
    by_cases h0 : l.length = 0
    · have hws : l = [] := List.eq_nil_of_length_eq_zero h0
      subst hws
      refine o_append0 (ad := some ⟨b, 0, none⟩) (k := 0) (cap := 0) (ay := some a) (cy := cap) rfl rfl (Nat.le_refl _) rfl rfl rfl rfl ?_
      (repeat first|refine zo rfl rfl trivial ?_|refine zn ?_|refine zr ?_)
      exact ⟨_, rfl, _, 0, rfl, ho1, k1, by simp [blkOf]; omega⟩
    · refine o_append (opsC l) rfl rfl ho1 ?_ rfl rfl rfl (by omega) hlen (by omega) ?_ (by simp only [maxLen]; omega) (by omega) rfl rfl ?_
      · intro j v hv
        exact (h.kp k1 (by simp)) j v hv
      · intro v hv
        obtain ⟨x, _, hx⟩ := List.mem_flatMap.1 hv
        simp [opC2] at hx
        rcases hx with rfl | rfl <;> rfl
      intro ad2 cap2 w2 ho2 k2 hnew
      (repeat first|refine zo rfl rfl trivial ?_|refine zn ?_|refine zr ?_)
      rw [Nat.zero_add] at ho2
      refine ⟨_, rfl, ad2, cap2, by rw [Nat.zero_add], ho2, k1.since k2 (by simp [blkOf]; omega), fun c hc => ?_⟩
      rcases hnew c hc with h1 | h1
      · simp [blkOf] at h1; omega
      · have := hu1.size; omega
set_option maxHeartbeats 800000 in
theorem CloneV_ret {ad : Option Addr} {l : List VarG} {cap : Nat} (h : ReadS w ad (varsC l)) (hl : l.length ≤ 1048576) :
    Ret Tryd.prog 50 [.slice ad l.length cap] w (fun v w' => ∃ ad' cap', v = .slice ad' l.length cap' ∧ OwnS w' 91 6 ad' l.length cap' (varsC l) ∧ Kp [] w w' ∧ ∀ b, b ∈ blkOf ad' → w.heap.size ≤ b) := by
  have hlen := varsC_len l
  refine enter Tryd.call50 Tryd.func50 rfl rfl rfl rfl ?_
  (repeat first|refine zA ?_|refine zB ?_|refine zg ?_|refine zo rfl rfl trivial ?_|refine zn ?_)
  cases ad with
  | none =>
    have h0 : varsC l = [] := by simpa [ReadS] using h
    have hl0 : l = [] := by
      apply List.eq_nil_of_length_eq_zero
      rw [h0] at hlen; simp at hlen; omega
    subst hl0
    (repeat first|refine zA ?_|refine zg ?_|refine zo rfl rfl trivial ?_|refine zn ?_|refine zr ?_|refine zt rfl ?_)
    exact ⟨_, rfl, none, 0, rfl, ownS_nil _ _ _, Kp.refl _ _, by simp [blkOf]⟩
  | some a =>
    (repeat first|refine zA ?_|refine zg ?_|refine zo rfl rfl trivial ?_|refine zn ?_|refine zk ?_|refine zf rfl ?_)
    refine o_buildSlice0 rfl rfl rfl rfl ?_
    intro b w1 hb hu1
    have k1 : Kp [] w w1 := hu1.kp [] (.inr (by omega))
    have ho1 : OwnS w1 91 6 (some ⟨b, 0, none⟩) 0 0 [] := ⟨rfl, rfl, rfl, Nat.le_refl _, by simp [maxLen], [], hu1.blk, rfl⟩
    (repeat refine zo rfl rfl trivial ?_)
    by_cases h0 : l.length = 0
    · have hws : l = [] := List.eq_nil_of_length_eq_zero h0
      subst hws
      refine o_append0 (ad := some ⟨b, 0, none⟩) (k := 0) (cap := 0) (ay := some a) (cy := cap) rfl rfl (Nat.le_refl _) rfl rfl rfl rfl ?_
      (repeat first|refine zo rfl rfl trivial ?_|refine zn ?_|refine zr ?_)
      exact ⟨_, rfl, _, 0, rfl, ho1, k1, by simp [blkOf]; omega⟩
    · refine o_append (varsC l) rfl rfl ho1 ?_ rfl rfl rfl (by omega) hlen (by omega) ?_ (by simp only [maxLen]; omega) (by omega) rfl rfl ?_
      · intro j v hv
        exact (h.kp k1 (by simp)) j v hv
      · intro v hv
        obtain ⟨x, _, hx⟩ := List.mem_flatMap.1 hv
        simp [varC] at hx
        rcases hx with rfl | rfl | rfl | rfl | rfl | rfl <;> rfl
      intro ad2 cap2 w2 ho2 k2 hnew
      (repeat first|refine zo rfl rfl trivial ?_|refine zn ?_|refine zr ?_)
      rw [Nat.zero_add] at ho2
      refine ⟨_, rfl, ad2, cap2, by rw [Nat.zero_add], ho2, k1.since k2 (by simp [blkOf]; omega), fun c hc => ?_⟩
      rcases hnew c hc with h1 | h1
      · simp [blkOf] at h1; omega
      · have := hu1.size; omega
end Go.Vc
