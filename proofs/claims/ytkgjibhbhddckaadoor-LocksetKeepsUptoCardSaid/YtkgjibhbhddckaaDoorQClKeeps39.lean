/- order: what a beginning of a list says; the races' variables: plain laws. -/
import Derived.Test.YtkgjibhbhddckaaDoorQClKeeps38
import Derived.Test.YtkgjibhbhddckaaDoorQClKeeps29
namespace Go.Vc
open Go Go.Proofs
theorem can_acc {s : Shp} {c : Ck} {x : Ev} (hc : canB s c x = true) (hk : x.k = 1 ∨ x.k = 2) : 0 ≤ x.o ∧ x.o < s.va := by
  unfold canB at hc
  by_cases h2 : (st c x.t).ph = 2
  · rw [if_pos h2] at hc
    rcases hk with hk | hk <;> rw [hk] at hc <;> simp at hc
  · rw [if_neg h2] at hc
    by_cases h1 : (st c x.t).ph ≠ 1
    · rw [if_pos h1] at hc; simp at hc
    · rw [if_neg h1] at hc
      by_cases h0 : x.o < 0
      · rw [if_pos h0] at hc; simp at hc
      · rw [if_neg h0] at hc
        rcases hk with hk | hk <;> rw [hk] at hc <;> simp at hc <;> omega
section
variable {E : List Ev} {R : List Int}
theorem racesJ_mem {j i : Nat} {x : P3} : x ∈ racesJ E R j i ↔ ∃ a, a < i ∧ raceI E R a j = true ∧ x = ((evA E j).o, a, j) := by
  unfold racesJ
  rw [List.mem_filterMap]
  constructor
  · rintro ⟨a, ha, h⟩
    split at h
    · rename_i hr
      exact ⟨a, by simpa using ha, hr, by simpa using h.symm⟩
    · cases h
  · rintro ⟨a, ha, hr, rfl⟩
    exact ⟨a, by simpa using ha, by rw [if_pos hr]⟩
theorem racesN_mem {n : Nat} {x : P3} : x ∈ racesN E R n ↔ ∃ j a, j < n ∧ a < j ∧ raceI E R a j = true ∧ x = ((evA E j).o, a, j) := by
  unfold racesN
  rw [List.mem_flatMap]
  constructor
  · rintro ⟨j, hj, h⟩
    obtain ⟨a, h1, h2, h3⟩ := racesJ_mem.1 h
    exact ⟨j, a, by simpa using hj, h1, h2, h3⟩
  · rintro ⟨j, a, hj, h1, h2, h3⟩
    exact ⟨j, by simpa using hj, racesJ_mem.2 ⟨a, h1, h2, h3⟩⟩
theorem raceI_acc {i j : Nat} (h : raceI E R i j = true) : accB (evA E i) = true ∧ accB (evA E j) = true := by
  unfold raceI at h
  simp only [Bool.and_eq_true] at h
  exact ⟨h.1.1, h.1.2.1⟩
end
theorem acc_k {x : Ev} (h : accB x = true) : x.k = 1 ∨ x.k = 2 := by
  unfold accB at h
  simpa using h
section
variable {s : Shp} {l : List Ev} {n : Nat}
variable (hn : n ≤ l.length)
include hn
end
section
variable {E : List Ev} {R : List Int} {n : Nat}
end
end Go.Vc
/- order: what is done under one lock has no race: the plain law. -/
namespace Go.Vc
open Go Go.Proofs
def sL : Shp := ⟨4, 1, 0, 1, []⟩
abbrev TK := Int × Int
def trip (x : TK) : List Ev := [⟨5, x.1, 0⟩, ⟨x.2, x.1, 0⟩, ⟨6, x.1, 0⟩]
def lockL (ts : List TK) : List Ev := [⟨7, 0, 1⟩, ⟨7, 0, 2⟩, ⟨7, 0, 3⟩] ++ ts.flatMap trip
def TOk (x : TK) : Prop := (0 ≤ x.1 ∧ x.1 ≤ 3) ∧ (x.2 = 1 ∨ x.2 = 2)
/-- a run that is let, event by event -/
def okFrom (s : Shp) : Ck → List Ev → Prop
  | _, [] => True
  | c, x :: r => canB s c x = true ∧ okFrom s (nextC s c x) r
/-- all four stand, the lock is free -/
def GoodL (c : Ck) : Prop := (∀ t : Int, 0 ≤ t → t ≤ 3 → (st c t).ph = 1) ∧ c.O 0 = none
theorem lk_same {E : List Ev} {R : List Int} {a b : Nat} (hab : a < b) (hb : b < E.length) (h : (evA E a).t = (evA E b).t) : lk E R a b := by
  unfold lk whyI
  rw [if_pos ⟨by omega, by omega, by omega⟩, Int.toNat_natCast, Int.toNat_natCast]
  unfold whyEv
  rw [if_pos h]; decide
theorem lk_unlock {E : List Ev} {R : List Int} {a b : Nat} (hab : a < b) (hb : b < E.length) (h6 : (evA E a).k = 6) (h5 : (evA E b).k = 5) (ho : (evA E a).o = (evA E b).o) : lk E R a b := by
  unfold lk whyI
  rw [if_pos ⟨by omega, by omega, by omega⟩, Int.toNat_natCast, Int.toNat_natCast]
  unfold whyEv
  rw [h6, h5, ho]
  split
  · decide
  · simp
end Go.Vc
/- lockset: LocksetKeeps: the plain law. -/
namespace Go.Vc
open Go Go.Proofs
def newLS (s : Shp) : LS := ⟨newC s, fun _ => [], List.replicate s.va.toNat ⟨0, 0, none, none, false, 0⟩⟩
abbrev runL (s : Shp) (l : List Ev) (i : Nat) : LS := runN s (newLS s) l i
theorem runL_c (s : Shp) (l : List Ev) : ∀ i, i ≤ l.length → (runL s l i).c = runC s l i
  | 0, _ => rfl
  | i + 1, h => by
    obtain ⟨e, he⟩ : ∃ e, l[i]? = some e := ⟨_, List.getElem?_eq_getElem (by omega)⟩
    show (runN s (newLS s) l (i + 1)).c = _
    rw [runN_succ he, runC_succ he, ← runL_c s l i (by omega)]; rfl
theorem mem_inter {a b : List Nat} {m : Nat} : m ∈ inter a b ↔ m ∈ a ∧ m ∈ b := by simp [inter]
theorem accL_kp (v : LV) (e : Ev) (h : List Nat) (a : Int) : (accL v e h a).kp = some (inter (v.kp.getD h) h) := by
  have hw : ∀ u : LV, (warnL u a).kp = u.kp := fun u => by unfold warnL; split <;> rfl
  unfold accL
  dsimp only
  split
  · rfl
  · split
    · split
      · rfl
      · unfold sharedL; rw [hw]
    · unfold sharedL; rw [hw]
/-- what is known of a variable, whatever was touched -/
structure VIn (v : LV) : Prop where
  ph : v.kp.isSome = true → v.ph ≠ 0
  z : v.kp = none → v.ph = 0
  sub : (v.ph = 2 ∨ v.ph = 3) → ∃ K c, v.kp = some K ∧ v.ca = some c ∧ ∀ m ∈ K, m ∈ c
  wa : v.wa = true → v.kp = some []
  ok : VOk v
theorem VIn.acc {v : LV} (h : VIn v) (e : Ev) (hh : List Nat) (a : Int) : VIn (accL v e hh a) := by
  have hok := accL_ok (v := v) (e := e) (h := hh) (a := a) h.ok
  have hk := accL_kp v e hh a
  -- the warning
  have warn : ∀ u : LV, (u.ph = 2 ∨ u.ph = 3) → (∃ K c, u.kp = some K ∧ u.ca = some c ∧ ∀ m ∈ K, m ∈ c) → (u.wa = true → u.kp = some []) → (warnL u a).ph = u.ph ∧ (warnL u a).kp = u.kp ∧ (warnL u a).ca = u.ca ∧ ((warnL u a).wa = true → (warnL u a).kp = some []) := fun u hp hs hw => by
    unfold warnL
    split
    · rename_i hc
      refine ⟨rfl, rfl, rfl, fun _ => ?_⟩
      obtain ⟨K, c, h1, h2, h3⟩ := hs
      have : c = [] := by rw [h2] at hc; exact List.eq_nil_of_length_eq_zero hc.2.1
      subst this
      show u.kp = some []
      rw [h1]
      congr 1
      exact List.eq_nil_iff_forall_not_mem.2 fun m hm => absurd (h3 m hm) (by simp)
    · exact ⟨rfl, rfl, rfl, hw⟩
  have shared : ∀ u : LV, (u.ph = 2 ∨ u.ph = 3) → (∃ K c, u.kp = some (inter K hh) ∧ u.ca = some c ∧ ∀ m ∈ K, m ∈ hh → m ∈ c) → (u.wa = true → u.kp = some []) → VOk (sharedL u e hh a) → VIn (sharedL u e hh a) := fun u hp ⟨K, c, h1, h2, h3⟩ hw hvo => by
    have := warn { u with ca := u.ca.map (inter · hh), ph := if e.k = 2 then 3 else u.ph } (by dsimp only; split; (exact .inr rfl); exact hp) ⟨inter K hh, inter c hh, h1, by dsimp only; rw [h2]; rfl, fun m hm => by
      rw [mem_inter] at hm ⊢
      exact ⟨h3 m hm.1 hm.2, hm.2⟩⟩ hw
    obtain ⟨q1, q2, q3, q4⟩ := this
    have hp2 : (sharedL u e hh a).ph = 2 ∨ (sharedL u e hh a).ph = 3 := by
      unfold sharedL; rw [q1]; dsimp only; split; (exact .inr rfl); exact hp
    refine ⟨fun _ => by omega, fun h0 => ?_, fun _ => ⟨inter K hh, inter c hh, ?_, ?_, fun m hm => ?_⟩, q4, hvo⟩
    · unfold sharedL at h0; rw [q2] at h0; dsimp only at h0; rw [h1] at h0; cases h0
    · unfold sharedL; rw [q2]; exact h1
    · unfold sharedL; rw [q3]; dsimp only; rw [h2]; rfl
    · rw [mem_inter] at hm ⊢
      exact ⟨h3 m hm.1 hm.2, hm.2⟩
  have hwa : v.wa = true → inter (v.kp.getD hh) hh = [] := fun hw => by rw [h.wa hw]; rfl
  unfold accL at hok hk ⊢
  dsimp only at hok hk ⊢
  split
  · rename_i h0
    rw [if_pos h0] at hok hk
    exact ⟨fun _ => by simp, fun hz => (by rw [hk] at hz; cases hz), fun hp => by simp at hp, fun hw => by rw [hk, hwa hw], hok⟩
  · rename_i h0
    rw [if_neg h0] at hok hk
    split
    · rename_i h1
      rw [if_pos h1] at hok hk
      split
      · rename_i ht
        rw [if_pos ht] at hok hk
        exact ⟨fun _ => h0, fun hz => (by rw [hk] at hz; cases hz), fun hp => by dsimp only at hp; omega, fun hw => by rw [hk, hwa hw], hok⟩
      · rename_i ht
        rw [if_neg ht] at hok
        exact shared _ (.inl rfl) ⟨v.kp.getD hh, hh, rfl, rfl, fun m _ hm => hm⟩ (fun hw => by dsimp only; rw [hwa hw]) hok
    · rename_i h1
      rw [if_neg h1] at hok
      have hp : v.ph = 2 ∨ v.ph = 3 := by
        rcases h.ok with q | q | ⟨q, _⟩
        · exact absurd q h0
        · exact absurd q h1
        · exact q
      obtain ⟨K, c, g1, g2, g3⟩ := h.sub hp
      exact shared _ hp ⟨K, c, by dsimp only; rw [g1]; rfl, g2, fun m hm _ => g3 m hm⟩ (fun hw => by dsimp only; rw [hwa hw]) hok
/-- held is owned -/
def HIn (S : LS) : Prop := ∀ t (m : Nat), m ∈ S.H t ↔ S.c.O (m : Int) = some t
theorem HIn.step {s : Shp} {S : LS} {e : Ev} (h : HIn S) (hc : canB s S.c e = true) : HIn (stepL S e s) := by
  intro t m
  show m ∈ eventH S.H e t ↔ (nextC s S.c e).O m = some t
  unfold eventH nextC
  by_cases h5 : e.k = 5
  · rw [if_pos h5, if_pos h5]
    obtain ⟨q1, _, q3⟩ := can_lock hc h5
    dsimp only
    unfold upT
    by_cases hm : (m : Int) = e.o
    · rw [if_pos hm]
      by_cases ht : t = e.t
      · subst ht
        rw [if_pos rfl, mem_withL]
        simp; right; omega
      · rw [if_neg ht, h t m, hm, q3]
        simp; exact fun q => ht q.symm
    · rw [if_neg hm]
      by_cases ht : t = e.t
      · subst ht
        rw [if_pos rfl, mem_withL, h e.t m]
        constructor
        · rintro (q | q)
          · exact q
          · omega
        · exact .inl
      · rw [if_neg ht]; exact h t m
  · rw [if_neg h5, if_neg h5]
    by_cases h6 : e.k = 6
    · rw [if_pos h6, if_pos h6]
      obtain ⟨q1, _, q3⟩ := can_unlock hc h6
      dsimp only
      unfold upT
      by_cases hm : (m : Int) = e.o
      · rw [if_pos hm]
        by_cases ht : t = e.t
        · subst ht
          rw [if_pos rfl, List.mem_filter]
          simp; omega
        · rw [if_neg ht, h t m, hm, q3]
          simp; exact fun q => ht q.symm
      · rw [if_neg hm]
        by_cases ht : t = e.t
        · subst ht
          rw [if_pos rfl, List.mem_filter, h e.t m]
          simp; omega
        · rw [if_neg ht]; exact h t m
    · rw [if_neg h6, if_neg h6]
      have : (if e.k = 7 then { S.c with T := upT S.c.T e.o (some ⟨1, 0, 0⟩), n := S.c.n + 1 }
          else if e.k = 9 then { S.c with T := upT S.c.T e.t (some ⟨2, e.o, (opAt S.c e.o).1⟩), op := S.c.op.set e.o.toNat (arrive s S.c e.o), n := S.c.n + 1 }
          else if e.k = 10 then { S.c with T := upT S.c.T e.t (some ⟨1, 0, 0⟩), n := S.c.n + 1 }
          else if e.k = 11 then { S.c with T := upT S.c.T e.t (some ⟨3, 0, 0⟩), n := S.c.n + 1 }
          else { S.c with n := S.c.n + 1 }).O = S.c.O := by
        repeat' split
        all_goals rfl
      rw [this]; exact h t m
section
variable {s : Shp} {l : List Ev} (ho : okTo s l l.length)
include ho
theorem run_can {i : Nat} (hi : i < l.length) : canB s (runL s l i).c (evA l i) = true := by
  rw [runL_c s l i (by omega)]
  exact ho i _ hi (by unfold evA; rw [List.getElem?_eq_getElem hi]; rfl)
theorem run_H : ∀ i, i ≤ l.length → HIn (runL s l i)
  | 0, _ => fun t m => by
    show m ∈ [] ↔ (none : Option Int) = some t
    simp
  | i + 1, h => by
    obtain ⟨e, he⟩ : ∃ e, l[i]? = some e := ⟨_, List.getElem?_eq_getElem (by omega)⟩
    show HIn (runN s (newLS s) l (i + 1))
    rw [runN_succ he]
    refine (run_H i (by omega)).step ?_
    have := run_can ho (i := i) (by omega)
    unfold evA at this; rw [he] at this; exact this
/-- who owns a lock lets it go by an Unlock alone -/
theorem own_lost {m t : Int} {i : Nat} (h1 : (runC s l i).O m = some t) : ∀ j, i ≤ j → j ≤ l.length → (runC s l j).O m = some t ∨ ∃ a, i ≤ a ∧ a < j ∧ (evA l a).k = 6 ∧ (evA l a).o = m ∧ (evA l a).t = t ∧ (runC s l (a + 1)).O m = none
  | 0, hi, _ => .inl (by have : i = 0 := by omega
                         subst this; exact h1)
  | j + 1, hi, hj => by
    by_cases hij : i = j + 1
    · subst hij; exact .inl h1
    · rcases own_lost h1 j (by omega) (by omega) with h2 | ⟨a, h2, h3, h4⟩
      · have hx : l[j]? = some (evA l j) := by unfold evA; rw [List.getElem?_eq_getElem (by omega)]; rfl
        have hc := ho j _ (by omega) hx
        have hs := runC_succ (s := s) hx
        by_cases h6 : (evA l j).k = 6 ∧ (evA l j).o = m
        · obtain ⟨_, _, q3⟩ := can_unlock hc h6.1
          rw [h6.2, h2] at q3
          refine .inr ⟨j, by omega, by omega, h6.1, h6.2, by simpa using q3.symm, ?_⟩
          rw [hs]; unfold nextC
          rw [if_neg (by omega), if_pos h6.1]
          show upT _ _ _ m = none
          unfold upT; rw [if_pos h6.2.symm]
        · left
          rw [hs]; unfold nextC
          by_cases h5 : (evA l j).k = 5
          · rw [if_pos h5]
            obtain ⟨_, _, q3⟩ := can_lock hc h5
            show upT _ _ _ m = some t
            unfold upT
            rw [if_neg (fun e => by rw [← e, h2] at q3; cases q3)]; exact h2
          · rw [if_neg h5]
            by_cases h66 : (evA l j).k = 6
            · rw [if_pos h66]
              show upT _ _ _ m = some t
              unfold upT
              rw [if_neg (fun e => h6 ⟨h66, e.symm⟩)]; exact h2
            · rw [if_neg h66]
              repeat' split
              all_goals exact h2
      · exact .inr ⟨a, h2, by omega, h4⟩
omit ho in
/-- who owns a lock that was free took it by a Lock -/
theorem own_got {m u : Int} {i : Nat} (h1 : (runC s l i).O m ≠ some u) : ∀ j, i ≤ j → j ≤ l.length → (runC s l j).O m = some u → ∃ b, i ≤ b ∧ b < j ∧ (evA l b).k = 5 ∧ (evA l b).o = m ∧ (evA l b).t = u
  | 0, hi, _, h => absurd h (by have : i = 0 := by omega
                                subst this; exact h1)
  | j + 1, hi, hj, h => by
    by_cases hij : i = j + 1
    · subst hij; exact absurd h h1
    · by_cases h2 : (runC s l j).O m = some u
      · obtain ⟨b, q1, q2, q3⟩ := own_got h1 j (by omega) (by omega) h2
        exact ⟨b, q1, by omega, q3⟩
      · have hx : l[j]? = some (evA l j) := by unfold evA; rw [List.getElem?_eq_getElem (by omega)]; rfl
        have hs := runC_succ (s := s) hx
        rw [hs] at h
        unfold nextC at h
        by_cases h5 : (evA l j).k = 5
        · rw [if_pos h5] at h
          have h : upT (runC s l j).O (evA l j).o (some (evA l j).t) m = some u := h
          unfold upT at h
          by_cases hm : m = (evA l j).o
          · rw [if_pos hm] at h
            exact ⟨j, by omega, by omega, h5, hm.symm, by simpa using h⟩
          · rw [if_neg hm] at h; exact absurd h h2
        · rw [if_neg h5] at h
          by_cases h6 : (evA l j).k = 6
          · rw [if_pos h6] at h
            have h : upT (runC s l j).O (evA l j).o none m = some u := h
            unfold upT at h
            split at h
            · cases h
            · exact absurd h h2
          · rw [if_neg h6] at h
            repeat' split at h
            all_goals exact absurd h h2
/-- two accesses under one lock are in order -/
theorem locked_order {R : List Int} {m : Nat} {i j : Nat} (hij : i < j) (hj : j < l.length) (hai : accB (evA l i) = true) (haj : accB (evA l j) = true) (hi : m ∈ (runL s l i).H (evA l i).t) (hjm : m ∈ (runL s l j).H (evA l j).t) (ht : (evA l i).t ≠ (evA l j).t) : befI l R i j = true := by
  rw [run_H ho i (by omega), runL_c s l i (by omega)] at hi
  rw [run_H ho j (by omega), runL_c s l j (by omega)] at hjm
  rcases own_lost ho hi j (by omega) (by omega) with h | ⟨a, h1, h2, h3, h4, h5, h6⟩
  · rw [hjm] at h; exact absurd (by simpa using h.symm) ht
  obtain ⟨b, g1, g2, g3, g4, g5⟩ := own_got (i := a + 1) (u := (evA l j).t) (by rw [h6]; simp) j (by omega) (by omega) hjm
  have nai : a ≠ i := fun e => by subst e; have := acc_k hai; omega
  have nbj : b ≠ j := by omega
  rw [befI_nat]
  exact .more (lk_same (by omega) (by omega) h5.symm) (.more (lk_unlock (by omega) (by omega) h3 g3 (by rw [h4, g4])) (.one (lk_same (by omega) (by omega) g5)))
/-- behind so many events: what is known of each variable -/
structure VRun (s : Shp) (l : List Ev) (i : Nat) (V : List LV) : Prop where
  len : V.length = s.va.toNat
  ok : ∀ v ∈ V, VIn v
  none_ : ∀ (n : Nat) v, V[n]? = some v → v.kp = none → ∀ j, j < i → accB (evA l j) = true → (evA l j).o ≠ (n : Int)
  held : ∀ (n : Nat) v K, V[n]? = some v → v.kp = some K → ∀ m ∈ K, ∀ j, j < i → accB (evA l j) = true → (evA l j).o = (n : Int) → m ∈ (runL s l j).H (evA l j).t
theorem run_V (hs : shapeB s = true) : ∀ i, i ≤ l.length → VRun s l i (runL s l i).V
  | 0, _ => ⟨by show (List.replicate _ _).length = _; simp, fun v hv => by
      have : v = ⟨0, 0, none, none, false, 0⟩ := List.eq_of_mem_replicate hv
      subst this
      exact ⟨by simp, by simp, by simp, by simp, .inl rfl⟩, fun n v _ _ j hj => by omega, fun n v K _ _ m _ j hj => by omega⟩
  | i + 1, h => by
    have ih := run_V hs i (by omega)
    have hx : l[i]? = some (evA l i) := by unfold evA; rw [List.getElem?_eq_getElem (by omega)]; rfl
    have hc := run_can ho (i := i) (by omega)
    show VRun s l (i + 1) (runN s (newLS s) l (i + 1)).V
    rw [runN_succ hx]
    show VRun s l (i + 1) (eventV (runL s l i).V ((runL s l i).H (evA l i).t) (evA l i) (runL s l i).c.n)
    generalize hV : (runL s l i).V = V at ih
    unfold eventV
    by_cases hrw : (evA l i).k = 1 ∨ (evA l i).k = 2
    · rw [if_pos hrw]
      obtain ⟨o1, o2⟩ := can_acc hc hrw
      have hva : 0 ≤ s.va := by omega
      have hlt : (evA l i).o.toNat < V.length := by rw [ih.len]; omega
      obtain ⟨v, hv⟩ : ∃ v, V[(evA l i).o.toNat]? = some v := ⟨_, List.getElem?_eq_getElem hlt⟩
      rw [hv]
      dsimp only
      have hvi := ih.ok v (List.mem_of_getElem? hv)
      have hacc : accB (evA l i) = true := by unfold accB; simpa using hrw
      have hon : ((evA l i).o.toNat : Int) = (evA l i).o := by omega
      have hget : ∀ (n : Nat) u, (V.set (evA l i).o.toNat (accL v (evA l i) ((runL s l i).H (evA l i).t) (runL s l i).c.n))[n]? = some u → (n = (evA l i).o.toNat ∧ u = accL v (evA l i) ((runL s l i).H (evA l i).t) (runL s l i).c.n) ∨ (n ≠ (evA l i).o.toNat ∧ V[n]? = some u) := fun n u hu => by
        rw [List.getElem?_set] at hu
        by_cases q : (evA l i).o.toNat = n
        · rw [if_pos q, if_pos hlt] at hu
          exact .inl ⟨q.symm, (Option.some.inj hu).symm⟩
        · rw [if_neg q] at hu; exact .inr ⟨fun e => q e.symm, hu⟩
      refine ⟨by rw [List.length_set]; exact ih.len, fun u hu => ?_, fun n u hu hk j hj haj => ?_, fun n u K hu hk m hm j hj haj hoj => ?_⟩
      · rcases List.mem_or_eq_of_mem_set hu with hu | rfl
        · exact ih.ok u hu
        · exact hvi.acc _ _ _
      · rcases hget n u hu with ⟨rfl, rfl⟩ | ⟨q1, q2⟩
        · rw [accL_kp] at hk; cases hk
        · by_cases hji : j = i
          · subst hji; omega
          · exact ih.none_ n u q2 hk j (by omega) haj
      · rcases hget n u hu with ⟨rfl, rfl⟩ | ⟨q1, q2⟩
        · rw [accL_kp] at hk
          have hk : inter (v.kp.getD ((runL s l i).H (evA l i).t)) ((runL s l i).H (evA l i).t) = K := by simpa using hk
          rw [← hk, mem_inter] at hm
          by_cases hji : j = i
          · subst hji; exact hm.2
          · cases hvk : v.kp with
            | none => exact absurd hoj (ih.none_ _ v hv hvk j (by omega) haj)
            | some K' => rw [hvk] at hm; exact ih.held _ v K' hv hvk m hm.1 j (by omega) haj hoj
        · by_cases hji : j = i
          · subst hji; omega
          · exact ih.held n u K q2 hk m hm j (by omega) haj hoj
    · rw [if_neg hrw]
      have hacc : accB (evA l i) = false := by unfold accB; simpa using hrw
      refine ⟨ih.len, ih.ok, fun n u hu hk j hj haj => ?_, fun n u K hu hk m hm j hj haj hoj => ?_⟩
      · by_cases hji : j = i
        · subst hji; rw [hacc] at haj; cases haj
        · exact ih.none_ n u hu hk j (by omega) haj
      · by_cases hji : j = i
        · subst hji; rw [hacc] at haj; cases haj
        · exact ih.held n u K hu hk m hm j (by omega) haj hoj
/-- a variable that a lock keeps has no race -/
theorem kept_no_race {R : List Int} (hs : shapeB s = true) {n : Nat} {v : LV} {K : List Nat} {m : Nat} (hv : (runL s l l.length).V[n]? = some v) (hk : v.kp = some K) (hm : m ∈ K) : onV (n : Int) (racesN l R l.length) = [] := by
  have hV := run_V ho hs l.length (Nat.le_refl _)
  rw [List.eq_nil_iff_forall_not_mem]
  intro x hx
  obtain ⟨h1, h2⟩ := List.mem_filter.1 hx
  have h2 : x.1 = (n : Int) := of_decide_eq_true h2
  obtain ⟨j, a, hj, ha, hr, rfl⟩ := racesN_mem.1 h1
  dsimp only at h2
  obtain ⟨q1, q2⟩ := raceI_acc hr
  unfold raceI at hr
  simp only [Bool.and_eq_true, decide_eq_true_eq, Bool.not_eq_true', decide_eq_false_iff_not] at hr
  have p1 := hV.held n v K hv hk m hm a (by omega) q1 (by rw [hr.1.2.2.1]; exact h2)
  have p2 := hV.held n v K hv hk m hm j hj q2 h2
  have := locked_order (R := R) ho ha hj q1 q2 p1 p2 hr.1.2.2.2
  rw [this] at hr
  exact absurd hr.2.2 (by simp)
end
end Go.Vc
