/- lockset: LocksetAlone, plainly. -/
import Derived.Test.YtkgjibhbhddckaaDoorLs10
namespace Go.Vc
open Go Go.Proofs
set_option maxRecDepth 10000
def sAl : Shp := ⟨1, 2, 0, 3, []⟩
def SAl0 : LS := ⟨newC sAl, fun _ => [], List.replicate 2 ⟨0, 0, none, none, false, 0⟩⟩
def sel (f : Nat → Bool) : List Nat := (List.range 3).filter f
def upB (f : Nat → Bool) (k : Nat) (b : Bool) (i : Nat) : Bool := if i = k then b else f i
def bl (f : Nat → Bool) (n : Nat) : List Value := (List.range n).map fun i => .bool (f i)
theorem bl_len (f : Nat → Bool) (n : Nat) : (bl f n).length = n := by simp [bl]
theorem bl_get (f : Nat → Bool) {n i : Nat} (h : i < n) : (bl f n)[i]? = some (.bool (f i)) := by simp [bl, h]
theorem bl_set (f : Nat → Bool) (n i : Nat) (b : Bool) : (bl f n).set i (.bool b) = bl (upB f i b) n := by
  apply List.ext_getElem?
  intro j
  by_cases hj : j < n
  · rw [bl_get _ hj]
    by_cases hij : i = j
    · subst hij
      rw [List.getElem?_set_self (by rw [bl_len]; exact hj)]; simp [upB]
    · rw [List.getElem?_set_ne hij, bl_get _ hj]
      simp [upB, show ¬ j = i from fun h => hij h.symm]
  · rw [List.getElem?_eq_none (by rw [List.length_set, bl_len]; omega), List.getElem?_eq_none (by rw [bl_len]; omega)]
theorem mem_sel {f : Nat → Bool} {x : Nat} : x ∈ sel f ↔ x < 3 ∧ f x = true := by simp [sel]
theorem sel_sorted (f : Nat → Bool) : (sel f).Pairwise (· < ·) := List.Pairwise.filter _ (List.pairwise_lt_range)
theorem sel_with {f : Nat → Bool} {o : Nat} (ho : o < 3) : withL (sel f) o = sel (upB f o true) :=
  sorted_ext (sorted_withL (sel_sorted f) o) (sel_sorted _) fun x => by
    rw [mem_withL, mem_sel, mem_sel]
    unfold upB
    by_cases hx : x = o
    · subst hx; simp [ho]
    · simp [hx]
theorem sel_del {f : Nat → Bool} {o : Nat} : (sel f).filter (fun y => decide (y ≠ o)) = sel (upB f o false) :=
  sorted_ext ((sel_sorted f).filter _) (sel_sorted _) fun x => by
    rw [List.mem_filter, mem_sel, mem_sel]
    unfold upB
    by_cases hx : x = o
    · subst hx; simp
    · simp [hx]
theorem sel_inter {f g : Nat → Bool} : inter (sel f) (sel g) = sel (fun j => g j && f j) := by
  unfold inter
  refine sorted_ext ((sel_sorted f).filter _) (sel_sorted _) fun x => ?_
  rw [List.mem_filter, decide_eq_true_eq, mem_sel, mem_sel, mem_sel, Bool.and_eq_true]
  constructor
  · rintro ⟨⟨a, b⟩, _, c⟩; exact ⟨a, c, b⟩
  · rintro ⟨a, c, b⟩; exact ⟨⟨a, b⟩, a, c⟩
theorem sel_congr {f g : Nat → Bool} (h : ∀ j, j < 3 → f j = g j) : sel f = sel g :=
  List.filter_congr fun x hx => h x (by simpa using hx)
structure Al where
  h : Nat → Bool
  k : Nat → Bool
  m : Nat → Bool
def lvA (A : Al) (v : Nat) : LV := if A.m v = true then ⟨1, 0, some (sel fun j => A.k (v * 3 + j)), none, false, 0⟩ else ⟨0, 0, none, none, false, 0⟩
structure AlOk (A : Al) (S : LS) : Prop where
  T : S.c.T = upT (fun _ => none) 0 (some ⟨1, 0, 0⟩)
  O : ∀ l, S.c.O l = if 0 ≤ l ∧ l < 3 ∧ A.h l.toNat = true then some 0 else none
  H : S.H 0 = sel A.h
  V : S.V = [lvA A 0, lvA A 1]
  met : ∀ v j, v < 2 → j < 3 → A.m v = false → A.k (v * 3 + j) = false
def Al0 : Al := ⟨fun _ => false, fun _ => false, fun _ => false⟩
theorem al_start : AlOk Al0 SAl0 := ⟨rfl, fun l => by simp [SAl0, newC, Al0], rfl, rfl, fun _ _ _ _ _ => rfl⟩
theorem AlOk.vok {A : Al} {S : LS} (h : AlOk A S) : S.VOk := by
  intro v hv
  rw [h.V] at hv
  simp only [List.mem_cons, List.not_mem_nil, or_false] at hv
  rcases hv with rfl | rfl <;> (unfold lvA; split)
  · exact .inr (.inl rfl)
  · exact .inl rfl
  · exact .inr (.inl rfl)
  · exact .inl rfl
theorem eventH_del (H : Int → List Nat) (t o : Int) : eventH H ⟨6, t, o⟩ t = (H t).filter (fun y => decide (y ≠ o.toNat)) := by simp [eventH]
theorem eventH_put (H : Int → List Nat) (t o : Int) : eventH H ⟨5, t, o⟩ t = withL (H t) o.toNat := by simp [eventH]
def alLock (A : Al) (o : Nat) : Al := { A with h := upB A.h o (!A.h o) }
def evLock (A : Al) (o : Nat) : Ev := ⟨if A.h o = true then 6 else 5, 0, o⟩
/-- the keeps, so far -/
def kN (A : Al) (x j i : Nat) : Bool := if x * 3 ≤ i ∧ i < x * 3 + j then A.h (i - x * 3) && (A.k i || !A.m x) else A.k i
theorem kN_0 (A : Al) (x : Nat) : kN A x 0 = A.k := by funext i; unfold kN; rw [if_neg (by omega)]
theorem kN_at (A : Al) (x j : Nat) : kN A x j (x * 3 + j) = A.k (x * 3 + j) := by unfold kN; rw [if_neg (by omega)]
theorem kN_succ (A : Al) (x j : Nat) : upB (kN A x j) (x * 3 + j) (A.h j && (kN A x j (x * 3 + j) || !A.m x)) = kN A x (j + 1) := by
  funext i
  rw [kN_at]
  unfold upB
  by_cases hi : i = x * 3 + j
  · rw [if_pos hi]; unfold kN; rw [if_pos (by omega)]
    have : i - x * 3 = j := by omega
    rw [this, hi]
  · rw [if_neg hi]; unfold kN
    by_cases h2 : x * 3 ≤ i ∧ i < x * 3 + j
    · rw [if_pos h2, if_pos (by omega)]
    · rw [if_neg h2, if_neg (by omega)]
def alAcc (A : Al) (x : Nat) : Al := { A with k := kN A x 3, m := upB A.m x true }
theorem st_al {A : Al} {S : LS} (h : AlOk A S) : st S.c 0 = ⟨1, 0, 0⟩ := by unfold st; rw [h.T]; rfl
theorem al_lock {A : Al} {S : LS} (h : AlOk A S) {o : Nat} (ho : o < 3) : canB sAl S.c (evLock A o) = true ∧ AlOk (alLock A o) (stepL S (evLock A o) sAl) := by
  have hs := st_al h
  have hO := h.O o
  have e3 : sAl.lo = 3 := rfl
  have hs2 : ∀ kd : Int, st S.c (⟨kd, 0, o⟩ : Ev).t = ⟨1, 0, 0⟩ := fun _ => hs
  have hV : ∀ v, lvA (alLock A o) v = lvA A v := fun v => rfl
  rw [Int.toNat_natCast] at hO
  cases hh : A.h o with
  | true =>
    have e : evLock A o = ⟨6, 0, o⟩ := by unfold evLock; rw [if_pos hh]
    rw [if_pos ⟨by omega, by omega, hh⟩] at hO
    rw [e]
    refine ⟨?_, ?_⟩
    · unfold canB
      rw [hs2]
      dsimp only
      rw [hO, e3]
      simp; omega
    · refine ⟨h.T, fun l => ?_, ?_, ?_, fun v j hv hj hm => h.met v j hv hj hm⟩
      · show upT S.c.O (o : Int) none l = _
        unfold upT alLock upB
        dsimp only
        by_cases hl : l = o
        · subst hl; simp [hh]
        · rw [if_neg hl, h.O]
          by_cases hl2 : 0 ≤ l
          · have : l.toNat ≠ o := by omega
            simp only [if_neg this]
          · rw [if_neg (by omega), if_neg (by omega)]
      · show eventH S.H ⟨6, 0, o⟩ 0 = _
        rw [eventH_del, Int.toNat_natCast, h.H, sel_del]
        unfold alLock; simp only [hh, Bool.not_true]
      · show eventV S.V (S.H 0) ⟨6, 0, o⟩ S.c.n = _
        unfold eventV
        rw [if_neg (by simp), h.V, hV, hV]
  | false =>
    have e : evLock A o = ⟨5, 0, o⟩ := by unfold evLock; rw [if_neg (by rw [hh]; simp)]
    rw [if_neg (by rintro ⟨_, _, q⟩; rw [hh] at q; cases q)] at hO
    rw [e]
    refine ⟨?_, ?_⟩
    · unfold canB
      rw [hs2]
      dsimp only
      rw [hO, e3]
      simp; omega
    · refine ⟨h.T, fun l => ?_, ?_, ?_, fun v j hv hj hm => h.met v j hv hj hm⟩
      · show upT S.c.O (o : Int) (some 0) l = _
        unfold upT alLock upB
        dsimp only
        by_cases hl : l = o
        · subst hl; simp [hh]; omega
        · rw [if_neg hl, h.O]
          by_cases hl2 : 0 ≤ l
          · have : l.toNat ≠ o := by omega
            simp only [if_neg this]
          · rw [if_neg (by omega), if_neg (by omega)]
      · show eventH S.H ⟨5, 0, o⟩ 0 = _
        rw [eventH_put, Int.toNat_natCast, h.H, sel_with ho]
        unfold alLock; simp only [hh, Bool.not_false]
      · show eventV S.V (S.H 0) ⟨5, 0, o⟩ S.c.n = _
        unfold eventV
        rw [if_neg (by simp), h.V, hV, hV]
theorem acc_al {A : Al} (kd : Int) {x : Nat} (a : Int) : accL (lvA A x) ⟨kd, 0, x⟩ (sel A.h) a = lvA (alAcc A x) x := by
  have e1 : (alAcc A x).m x = true := by simp [alAcc, upB]
  have e2 : lvA (alAcc A x) x = ⟨1, 0, some (sel fun j => kN A x 3 (x * 3 + j)), none, false, 0⟩ := by unfold lvA; rw [if_pos e1]; rfl
  have e3 : ∀ j, j < 3 → kN A x 3 (x * 3 + j) = (A.h j && (A.k (x * 3 + j) || !A.m x)) := fun j hj => by
    unfold kN; rw [if_pos (by omega)]
    have : x * 3 + j - x * 3 = j := by omega
    rw [this]
  rw [e2, sel_congr e3]
  unfold lvA
  cases hm : A.m x with
  | true =>
    rw [if_pos rfl]
    unfold accL
    simp [sel_inter]
  | false =>
    rw [if_neg (by simp)]
    unfold accL
    simp [sel_inter]
theorem al_acc {A : Al} {S : LS} (h : AlOk A S) {x : Nat} (hx : x < 2) {kd : Int} (hk : kd = 1 ∨ kd = 2) : canB sAl S.c ⟨kd, 0, x⟩ = true ∧ AlOk (alAcc A x) (stepL S ⟨kd, 0, x⟩ sAl) := by
  have hs := st_al h
  have e3 : sAl.va = 2 := rfl
  have hs2 : st S.c (⟨kd, 0, x⟩ : Ev).t = ⟨1, 0, 0⟩ := hs
  refine ⟨?_, ?_⟩
  · unfold canB
    rw [hs2]
    dsimp only
    rw [e3]
    rcases hk with rfl | rfl <;> (simp; omega)
  · have hn : nextC sAl S.c ⟨kd, 0, x⟩ = { S.c with n := S.c.n + 1 } := by
      unfold nextC
      rcases hk with rfl | rfl <;> simp
    refine ⟨?_, fun l => ?_, ?_, ?_, fun v j hv hj hm => ?_⟩
    · show (nextC sAl S.c ⟨kd, 0, x⟩).T = _
      rw [hn]; exact h.T
    · show (nextC sAl S.c ⟨kd, 0, x⟩).O l = _
      rw [hn]; exact h.O l
    · show eventH S.H ⟨kd, 0, x⟩ 0 = _
      unfold eventH
      dsimp only
      rw [if_neg (by omega), if_neg (by omega)]; exact h.H
    · show eventV S.V (S.H 0) ⟨kd, 0, x⟩ S.c.n = _
      unfold eventV
      dsimp only
      rw [if_pos (by omega), h.H, Int.toNat_natCast, h.V]
      have hne : ∀ v, v ≠ x → v < 2 → lvA (alAcc A x) v = lvA A v := fun v hv hv2 => by
        have m1 : (alAcc A x).m v = A.m v := by simp [alAcc, upB, hv]
        have k1 : sel (fun j => (alAcc A x).k (v * 3 + j)) = sel (fun j => A.k (v * 3 + j)) := sel_congr fun j hj => by
          show kN A x 3 (v * 3 + j) = _
          unfold kN; rw [if_neg (by omega)]
        unfold lvA; rw [m1, k1]
      match x, hx with
      | 0, _ => rw [hne 1 (by omega) (by omega)]; simp only [List.getElem?_cons_zero, List.set_cons_zero]; rw [acc_al]
      | 1, _ => rw [hne 0 (by omega) (by omega)]; simp only [List.getElem?_cons_succ, List.getElem?_cons_zero, List.set_cons_succ, List.set_cons_zero]; rw [acc_al]
    · have hvx : v ≠ x := fun e => by subst e; simp [alAcc, upB] at hm
      have m1 : A.m v = false := by simpa [alAcc, upB, hvx] using hm
      show kN A x 3 (v * 3 + j) = false
      unfold kN; rw [if_neg (by omega)]
      exact h.met v j hv hj m1
/-- what is wanted, of a variable -/
theorem al_want {A : Al} {S : LS} (h : AlOk A S) {v : Nat} (hv : v < 2) : (((lvA A v).kp).getD []) = sel (fun j => A.k (v * 3 + j)) ∧ (lvA A v).kp.isSome = A.m v ∧ (lvA A v).ca = none ∧ (lvA A v).th = 0 ∧ (lvA A v).ph = (if A.m v = true then 1 else 0) ∧ (lvA A v).wa = false := by
  unfold lvA
  cases hm : A.m v with
  | true => simp
  | false =>
    simp
    have : sel (fun j => A.k (v * 3 + j)) = sel fun _ => false := sel_congr fun j hj => h.met v j hv hj hm
    rw [this]; rfl
theorem al_warned {A : Al} {S : LS} (h : AlOk A S) : warnedL S.V = [] := by
  have e0 := (al_want h (v := 0) (by omega)).2.2.2.2.2
  have e1 := (al_want h (v := 1) (by omega)).2.2.2.2.2
  rw [h.V]
  unfold warnedL
  rw [List.filterMap_eq_nil_iff]
  intro i hi
  have : i < 2 := by simpa using hi
  match i, this with
  | 0, _ => simp [e0]
  | 1, _ => simp [e1]
/-- the wanted list, so far -/
def selN (f : Nat → Bool) (n : Nat) : List Nat := (List.range n).filter f
theorem selN_succ (f : Nat → Bool) (n : Nat) : selN f (n + 1) = selN f n ++ (if f n = true then [n] else []) := by
  unfold selN
  rw [List.range_succ, List.filter_append]
  congr 1
  simp [List.filter_cons]
theorem and7 (x : Int) : ∃ k : Nat, ibits .and .i64 x 7 = (k : Int) ∧ k < 8 := by
  have h1 : (BitVec.ofInt 64 x &&& BitVec.ofInt 64 7).toNat ≤ 7 := by
    rw [BitVec.toNat_and]
    exact Nat.and_le_right
  refine ⟨(BitVec.ofInt 64 x &&& BitVec.ofInt 64 7).toNat, ?_, by omega⟩
  show IntKind.i64.wrap ((BitVec.ofInt 64 x &&& BitVec.ofInt 64 7).toNat : Int) = _
  rw [IntKind.wrap_i64]
  omega
theorem and1 {n : Nat} (h : n < 8) : ibits .and .i64 (n : Int) 1 = ((n % 2 : Nat) : Int) := by
  match n, h with
  | 0, _ => rfl
  | 1, _ => rfl
  | 2, _ => rfl
  | 3, _ => rfl
  | 4, _ => rfl
  | 5, _ => rfl
  | 6, _ => rfl
  | 7, _ => rfl
end Go.Vc
