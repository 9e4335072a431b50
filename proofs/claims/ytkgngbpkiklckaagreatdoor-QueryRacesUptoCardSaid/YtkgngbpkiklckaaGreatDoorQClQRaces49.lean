/- Query: races asked for, and races listed. -/
import Derived.Test.YtkgngbpkiklckaaGreatDoorQClQRaces43
import Derived.Test.YtkgngbpkiklckaaGreatDoorQClQRaces44
import Derived.Test.YtkgngbpkiklckaaGreatDoorQClQRaces48
import Derived.Test.YtkgngbpkiklckaaGreatDoorRows
import Derived.Test.YtkgngbpkiklckaaGreatDoorQClQRaces16
import Derived.Test.YtkgngbpkiklckaaGreatDoorQClQRaces7
import Derived.Test.YtkgngbpkiklckaaGreatDoorQClQRaces29
import Derived.Test.YtkgngbpkiklckaaGreatDoorQClQRaces24
import Derived.OpenShut
import Derived.Deep.DeepHandedRow
import Derived.Test.YtkgngbpkiklckaaGreatDoorQClQRaces21
namespace Go.Vc
open Go Go.Proofs
set_option maxRecDepth 20000
section
variable {E : List Ev} {R : List Int}
theorem race_I {b a : Nat} (hb : b < a) (ha : a < E.length) : raceQ E R b a = raceI E R b a ∧ raceQ E R a b = raceI E R b a := by
  have e1 : evI E (b : Int) = evA E b := by unfold evI; rw [if_pos (by omega)]; rfl
  have e2 : evI E (a : Int) = evA E a := by unfold evI; rw [if_pos (by omega)]; rfl
  have h1 : befI E R (a : Int) (b : Int) = false := by
    rw [Bool.eq_false_iff]
    intro h
    have := befI_lt h
    omega
  have d1 : decide (0 ≤ (a : Int) ∧ (a : Int) < E.length) = true := decide_eq_true (by omega)
  have d2 : decide (0 ≤ (b : Int) ∧ (b : Int) < E.length) = true := decide_eq_true (by omega)
  have d3 : decide ((b : Int) ≠ a) = true := decide_eq_true (by omega)
  have d4 : decide ((a : Int) ≠ b) = true := decide_eq_true (by omega)
  have c1 : decide ((evA E a).o = (evA E b).o) = decide ((evA E b).o = (evA E a).o) := by rw [Bool.eq_iff_iff]; simp [eq_comm]
  have c2 : decide ((evA E a).t = (evA E b).t) = decide ((evA E b).t = (evA E a).t) := by rw [Bool.eq_iff_iff]; simp [eq_comm]
  unfold raceQ raceI asideB accQ accB
  rw [e1, e2, h1, d1, d2, d3, d4, c1, c2]
  constructor
  · cases befI E R (b : Int) (a : Int) <;> cases decide ((evA E b).k = 1) <;> cases decide ((evA E b).k = 2) <;> cases decide ((evA E a).k = 1) <;> cases decide ((evA E a).k = 2) <;> cases decide ((evA E b).o = (evA E a).o) <;> cases decide ((evA E b).t = (evA E a).t) <;> rfl
  · cases befI E R (b : Int) (a : Int) <;> cases decide ((evA E b).k = 1) <;> cases decide ((evA E b).k = 2) <;> cases decide ((evA E a).k = 1) <;> cases decide ((evA E a).k = 2) <;> cases decide ((evA E b).o = (evA E a).o) <;> cases decide ((evA E b).t = (evA E a).t) <;> rfl
theorem race_ne {i : Int} : raceQ E R i i = false := by
  unfold raceQ asideB
  have : decide ((i : Int) ≠ i) = false := by simp
  rw [this]
  simp
/-- do races end here? -/
noncomputable def endB (E : List Ev) (R : List Int) (a : Nat) : Bool := !(racesJ E R a a).isEmpty
theorem rJ_mem {j i : Nat} {x : P3} : x ∈ racesJ E R j i ↔ ∃ b, b < i ∧ raceI E R b j = true ∧ x = ((evA E j).o, b, j) := by
  unfold racesJ
  rw [List.mem_filterMap]
  constructor
  · rintro ⟨b, hb, h⟩
    split at h
    · next hr => exact ⟨b, List.mem_range.1 hb, hr, (Option.some.inj h).symm⟩
    · cases h
  · rintro ⟨b, hb, hr, rfl⟩
    exact ⟨b, List.mem_range.2 hb, by rw [if_pos hr]⟩
theorem rN_mem {m : Nat} {x : P3} : x ∈ racesN E R m ↔ ∃ j, j < m ∧ x ∈ racesJ E R j j := by
  unfold racesN
  simp [List.mem_flatMap]
theorem endB_iff {a : Nat} : endB E R a = true ↔ ∃ b, b < a ∧ raceI E R b a = true := by
  unfold endB
  rw [Bool.not_eq_true', List.isEmpty_eq_false_iff_exists_mem]
  constructor
  · rintro ⟨x, hx⟩
    obtain ⟨b, h1, h2, _⟩ := rJ_mem.1 hx
    exact ⟨b, h1, h2⟩
  · rintro ⟨b, h1, h2⟩
    exact ⟨_, rJ_mem.2 ⟨b, h1, h2, rfl⟩⟩
theorem hit_end {a : Nat} (ha : a < E.length) : hitB (qwO E R) a = endB E R a := by
  rw [Bool.eq_iff_iff, endB_iff]
  unfold hitB
  rw [List.any_eq_true]
  constructor
  · rintro ⟨b, _, h⟩
    rw [Bool.and_eq_true, decide_eq_true_eq] at h
    have hb : b < a := by omega
    exact ⟨b, hb, by rw [← (race_I hb ha).1]; exact h.2⟩
  · rintro ⟨b, hb, h⟩
    refine ⟨b, List.mem_range.2 (show b < E.length by omega), ?_⟩
    rw [Bool.and_eq_true, decide_eq_true_eq]
    exact ⟨by omega, by rw [← (race_I hb ha).1] at h; exact h⟩
theorem any_race : ((List.range E.length).any fun (a : Nat) => (List.range E.length).any fun (b : Nat) => raceQ E R a b) = (firstV E R).isSome := by
  rw [firstV_ref]
  have hs : (bestR (racesN E R E.length)).isSome = !(racesN E R E.length).isEmpty := by
    unfold bestR
    cases racesN E R E.length <;> rfl
  rw [hs, Bool.eq_iff_iff, List.any_eq_true, Bool.not_eq_true', List.isEmpty_eq_false_iff_exists_mem]
  constructor
  · rintro ⟨a, ha, h⟩
    obtain ⟨b, hb, h⟩ := List.any_eq_true.1 h
    have ha := List.mem_range.1 ha
    have hb := List.mem_range.1 hb
    rcases Nat.lt_trichotomy a b with hl | rfl | hl
    · rw [(race_I hl hb).1] at h
      exact ⟨_, rN_mem.2 ⟨b, hb, rJ_mem.2 ⟨a, hl, h, rfl⟩⟩⟩
    · rw [race_ne] at h; cases h
    · rw [(race_I hl ha).2] at h
      exact ⟨_, rN_mem.2 ⟨a, ha, rJ_mem.2 ⟨b, hl, h, rfl⟩⟩⟩
  · rintro ⟨x, hx⟩
    obtain ⟨j, hj, hx⟩ := rN_mem.1 hx
    obtain ⟨b, hb, hr, _⟩ := rJ_mem.1 hx
    exact ⟨b, List.mem_range.2 (by omega), List.any_eq_true.2 ⟨j, List.mem_range.2 hj, by rw [(race_I hb hj).1]; exact hr⟩⟩
/-! ### Counting the runs of a list -/
def secP (l : List P3) (i : Nat) : Nat := ((l[i]?).map (·.2.2)).getD 0
def runP3 (l : List P3) (i : Nat) : Bool := decide (i = 0) || !decide (secP l i = secP l (i - 1))
def cntU (l : List P3) : Nat := (List.range l.length).countP (runP3 l)
theorem cnt_zero : ∀ b : Nat, (List.range b).countP (fun k => decide (k = 0)) = if b = 0 then 0 else 1
  | 0 => rfl
  | b + 1 => by
    have h0 : (List.range b).countP ((fun k => decide (k = 0)) ∘ Nat.succ) = 0 := by
      rw [List.countP_eq_zero]; intro a _; simp
    rw [List.range_succ_eq_map, List.countP_cons, List.countP_map, h0]
    simp
theorem cntU_app {l1 l2 : List P3} {m : Nat} (h1 : ∀ x ∈ l1, x.2.2 < m) (h2 : ∀ x ∈ l2, x.2.2 = m) : cntU (l1 ++ l2) = cntU l1 + if l2.length = 0 then 0 else 1 := by
  have s1 : ∀ i, i < l1.length → secP (l1 ++ l2) i = secP l1 i := fun i hi => by unfold secP; rw [List.getElem?_append_left hi]
  have s1' : ∀ i, i < l1.length → secP l1 i < m := fun i hi => by
    unfold secP
    rw [List.getElem?_eq_getElem hi]
    exact h1 _ (List.getElem_mem hi)
  have s2 : ∀ k, k < l2.length → secP (l1 ++ l2) (l1.length + k) = m := fun k hk => by
    unfold secP
    rw [List.getElem?_append_right (by omega), Nat.add_sub_cancel_left, List.getElem?_eq_getElem hk]
    exact h2 _ (List.getElem_mem hk)
  unfold cntU
  rw [List.length_append, List.range_add, List.countP_append, List.countP_map]
  congr 1
  · refine List.countP_congr fun i hi => ?_
    have hi := List.mem_range.1 hi
    unfold runP3
    rw [s1 i hi, s1 (i - 1) (by omega)]
  · rw [← cnt_zero]
    refine List.countP_congr fun k hk => ?_
    have hk := List.mem_range.1 hk
    unfold runP3
    simp only [Function.comp_apply, Bool.or_eq_true, decide_eq_true_eq, Bool.not_eq_true', decide_eq_false_iff_not]
    constructor
    · rintro (h | h)
      · omega
      · by_cases h0 : k = 0
        · exact h0
        · exfalso
          apply h
          rw [s2 k hk, show l1.length + k - 1 = l1.length + (k - 1) by omega, s2 (k - 1) (by omega)]
    · rintro rfl
      by_cases h0 : l1.length = 0
      · left; omega
      · right
        rw [s2 0 hk, show l1.length + 0 - 1 = l1.length - 1 by omega, s1 _ (by omega)]
        have := s1' (l1.length - 1) (by omega)
        omega
theorem racesJ_sec {j i : Nat} : ∀ x ∈ racesJ E R j i, x.2.2 = j := by
  intro x hx
  obtain ⟨b, _, _, rfl⟩ := rJ_mem.1 hx
  rfl
theorem racesN_sec {m : Nat} : ∀ x ∈ racesN E R m, x.2.2 < m := by
  intro x hx
  obtain ⟨j, hj, hx⟩ := rN_mem.1 hx
  rw [racesJ_sec x hx]; exact hj
theorem cnt_races : ∀ m : Nat, cntU (racesN E R m) = (List.range m).countP (endB E R)
  | 0 => rfl
  | m + 1 => by
    rw [racesN_succ, cntU_app racesN_sec racesJ_sec, cnt_races m, List.range_succ, List.countP_append]
    congr 1
    rw [List.countP_cons, List.countP_nil]
    unfold endB
    cases racesJ E R m m <;> rfl
theorem find_races : ∀ m : Nat, (List.range m).find? (endB E R) = (racesN E R m).head?.map (·.2.2)
  | 0 => rfl
  | m + 1 => by
    rw [racesN_succ, List.range_succ, List.find?_append, find_races m, List.head?_append]
    cases hN : (racesN E R m).head? with
    | some x => rfl
    | none =>
      show ([m].find? (endB E R)) = ((racesJ E R m m).head?).map (·.2.2)
      have hs := racesJ_sec (E := E) (R := R) (j := m) (i := m)
      have he : endB E R m = !(racesJ E R m m).isEmpty := rfl
      cases hJ : racesJ E R m m with
      | nil => rw [hJ] at he; rw [List.find?_cons_of_neg (by rw [he]; simp)]; rfl
      | cons x r =>
        rw [hJ] at he hs
        rw [List.find?_cons_of_pos (by rw [he]; rfl)]
        show some m = some x.2.2
        rw [hs x (by simp)]
theorem lastS_sec {b : P3} : ∀ L : List P3, (lastS b L).2.2 = b.2.2 := by
  intro L
  induction L generalizing b with
  | nil => rfl
  | cons x r ih =>
    show (lastS (if x.2.2 = b.2.2 then x else b) r).2.2 = b.2.2
    rw [ih]
    split
    · assumption
    · rfl
theorem first_sec : (firstV E R).map (·.2.2) = (racesN E R E.length).head?.map (·.2.2) := by
  rw [firstV_ref]
  unfold bestR
  cases racesN E R E.length with
  | nil => rfl
  | cons b r => show some (lastS b (b :: r)).2.2 = some b.2.2; rw [lastS_sec]
end
/-! ### The three answers -/
section
variable {s : Shp} {E : List Ev}
theorem text_of {txt : List UInt8} {t : QT} (hp : parseM txt = .ok t) (hl : lookedM t.rows = .ok t) (ho : orderM s E = 0) (hst : (evq (qwO E (rnds s E E.length)) t fun _ => 0).2 ≤ 1000000) :
    textM txt s E 1000000 = (if answerO t.op.toNat = 2 then ⟨2, 0, decide ((evq (qwO E (rnds s E E.length)) t fun _ => 0).1 = 1), (evq (qwO E (rnds s E E.length)) t fun _ => 0).2⟩ else ⟨answerO t.op.toNat, (evq (qwO E (rnds s E E.length)) t fun _ => 0).1, false, (evq (qwO E (rnds s E E.length)) t fun _ => 0).2⟩, 0, 0) := by
  have ha : askM t.rows s E 1000000 = fuelM (evq (qwO E (rnds s E E.length)) t fun _ => 0) (answerO t.op.toNat) 1000000 := by
    unfold askM; rw [hl]; exact if_pos ho
  unfold textM
  rw [hp]
  show (if (askM t.rows s E 1000000).2 = 0 then ((askM t.rows s E 1000000).1, 0, 0) else _) = _
  rw [ha]
  generalize evq (qwO E (rnds s E E.length)) t (fun _ => 0) = a at hst ⊢
  have hf : fuelM a (answerO t.op.toNat) 1000000 = if answerO t.op.toNat = 2 then (⟨2, 0, decide (a.1 = 1), a.2⟩, 0) else (⟨answerO t.op.toNat, a.1, false, a.2⟩, 0) := by
    have c1 : ¬ ((1000000 : Int) < 0 ∨ (67108864 : Int) < 1000000) := by decide
    have c2 : ¬ ((1000000 : Int) < a.2) := by omega
    unfold fuelM
    rw [if_neg c1, if_neg c2]
  rw [hf]
  by_cases h2 : answerO t.op.toNat = 2
  · rw [if_pos h2, if_pos h2]; rfl
  · rw [if_neg h2, if_neg h2]; rfl
theorem text_bad (ho : orderM s E ≠ 0) : textM txtE s E 9 = (rep0, orderM s E, 0) := by
  have ha : askM (QT.n0 3 0 []).rows s E 9 = (rep0, orderM s E) := by
    unfold askM; rw [lookE]; exact if_neg ho
  unfold textM
  rw [parseE]
  show (if (askM (QT.n0 3 0 []).rows s E 9).2 = 0 then _ else _) = _
  rw [ha, if_neg ho]
theorem textA_ok (ho : orderM s E = 0) (hn : E.length ≤ 40) : ∃ st, textM txtA s E 1000000 = (⟨2, 0, (firstV E (rnds s E E.length)).isSome, st⟩, 0, 0) := by
  obtain ⟨h1, h2⟩ := evA_ok (W := qwO E (rnds s E E.length)) hn (fun _ => 0)
  refine ⟨((evq (qwO E (rnds s E E.length)) (.n1 22 0 [97] inA) fun _ => 0).2 : Nat), ?_⟩
  rw [text_of parseA lookA ho h2]
  show ((⟨2, 0, decide ((evq (qwO E (rnds s E E.length)) (.n1 22 0 [97] inA) fun _ => 0).1 = 1), _⟩ : Rep), (0 : Int), (0 : Int)) = _
  rw [h1, ← any_race]; rfl
theorem textB_ok (ho : orderM s E = 0) (hn : E.length ≤ 40) : ∃ st, textM txtB s E 1000000 = (⟨1, (cntU (racesN E (rnds s E E.length) E.length) : Nat), false, st⟩, 0, 0) := by
  obtain ⟨h1, h2⟩ := evB_ok (W := qwO E (rnds s E E.length)) hn (fun _ => 0)
  refine ⟨((evq (qwO E (rnds s E E.length)) (.n1 24 0 [97] inB) fun _ => 0).2 : Nat), ?_⟩
  rw [text_of parseB lookB ho h2]
  show ((⟨1, (evq (qwO E (rnds s E E.length)) (.n1 24 0 [97] inB) fun _ => 0).1, false, _⟩ : Rep), (0 : Int), (0 : Int)) = _
  rw [h1, cnt_races]
  have : (List.range (qwO E (rnds s E E.length)).n).countP (hitB (qwO E (rnds s E E.length))) = (List.range E.length).countP (endB E (rnds s E E.length)) :=
    List.countP_congr fun a ha => by rw [hit_end (List.mem_range.1 ha)]
  rw [this]
theorem textC_ok (ho : orderM s E = 0) (hn : E.length ≤ 40) : ∃ st, textM txtC s E 1000000 = (⟨1, ((firstV E (rnds s E E.length)).map fun x => (x.2.2 : Int)).getD (-1), false, st⟩, 0, 0) := by
  obtain ⟨h1, h2⟩ := evC_ok (W := qwO E (rnds s E E.length)) hn (fun _ => 0)
  refine ⟨((evq (qwO E (rnds s E E.length)) (.n1 25 0 [97] inB) fun _ => 0).2 : Nat), ?_⟩
  rw [text_of parseC lookC ho h2]
  show ((⟨1, (evq (qwO E (rnds s E E.length)) (.n1 25 0 [97] inB) fun _ => 0).1, false, _⟩ : Rep), (0 : Int), (0 : Int)) = _
  rw [h1]
  have hf : ∀ l : List Nat, (∀ a ∈ l, a < E.length) → l.find? (hitB (qwO E (rnds s E E.length))) = l.find? (endB E (rnds s E E.length)) := by
    intro l
    induction l with
    | nil => intro _; rfl
    | cons a r ih =>
      intro h
      rw [List.find?_cons, List.find?_cons, hit_end (h a (by simp)), ih (fun b hb => h b (by simp [hb]))]
  have e : (List.range (qwO E (rnds s E E.length)).n).find? (hitB (qwO E (rnds s E E.length))) = (firstV E (rnds s E E.length)).map (·.2.2) := by
    rw [first_sec, ← find_races]
    exact hf (List.range E.length) (fun a ha => List.mem_range.1 ha)
  rw [e, Option.map_map]; rfl
end
end Go.Vc
/- what the rows' reading of a struct of ints, of a list of events, and of a row of ints or bools says. -/
namespace Go.Vc
open Go Go.Proofs Go.ChangeShapes
set_option maxRecDepth 10000
theorem bulkS_lenA {H : Type} : ∀ (l : List (DataW H)), l.length ≤ Go.Proofs.YtkgngbpkiklckaaGreatDoor.Rows.uptoBulkAll l
  | [] => by simp [Go.Proofs.YtkgngbpkiklckaaGreatDoor.Rows.uptoBulkAll]
  | d :: r => by
    have ih := bulkS_lenA r
    have h1 : 1 ≤ Go.Proofs.YtkgngbpkiklckaaGreatDoor.Rows.uptoBulk d := by
      cases d with
      | lit l => cases l <;> simp [Go.Proofs.YtkgngbpkiklckaaGreatDoor.Rows.uptoBulk]
      | _ => simp [Go.Proofs.YtkgngbpkiklckaaGreatDoor.Rows.uptoBulk]
    simp only [List.length_cons, Go.Proofs.YtkgngbpkiklckaaGreatDoor.Rows.uptoBulkAll]; omega
theorem bulkS_mem {H : Type} {d : DataW H} : ∀ {l : List (DataW H)}, d ∈ l → Go.Proofs.YtkgngbpkiklckaaGreatDoor.Rows.uptoBulk d ≤ Go.Proofs.YtkgngbpkiklckaaGreatDoor.Rows.uptoBulkAll l
  | [], h => by simp at h
  | x :: r, h => by
    simp only [Go.Proofs.YtkgngbpkiklckaaGreatDoor.Rows.uptoBulkAll]
    rcases List.mem_cons.1 h with rfl | h
    · omega
    · have := bulkS_mem h; omega
theorem bulkS_lits {H : Type} (k : IntKind) (zs : List Int) : Go.Proofs.YtkgngbpkiklckaaGreatDoor.Rows.uptoBulkAll (lits (H := H) k zs) = zs.length := by
  induction zs with
  | nil => rfl
  | cons z r ih => show Go.Proofs.YtkgngbpkiklckaaGreatDoor.Rows.uptoBulk (DataW.lit (.int k z)) + Go.Proofs.YtkgngbpkiklckaaGreatDoor.Rows.uptoBulkAll (lits k r) = _; rw [ih]; simp only [Go.Proofs.YtkgngbpkiklckaaGreatDoor.Rows.uptoBulk, List.length_cons]; omega
/-- one cell that is a slice of integers -/
theorem rdS_row {H : Type} {enc : TypeId × Value → H} {P : Program} {w : World} {base : Nat} {sp : Nat → Bool} {held : Bool} {t e : TypeId} {k : IntKind} {fuel : Nat} {v : Value} {x : DataW H × List MemPlace} (ht : P.underlying t = some (.slice e)) (he : P.underlying e = some (.int k)) (hc : P.cellsOf e = 1)
    (h : DataW.trod enc P w base sp held fuel t [v] = some x) : ∃ a cap, ∃ zs : List Int, v = .slice a zs.length cap ∧ ReadS w a (zs.map (Value.int k)) ∧ (∀ n ∈ zs, (Lit.int k n).wf = true) ∧ zs.length ≤ Go.Proofs.YtkgngbpkiklckaaGreatDoor.Rows.uptoBulk x.1 := by
  rcases open_ints ht he hc h with ⟨hcs, hx⟩ | ⟨a, l, c, zs, hcs, _, hl, hm, hz, hx, hcell, hwz⟩
  · simp at hcs
    exact ⟨none, 0, [], hcs, rfl, by simp, by simp⟩
  · simp at hcs
    have hlz : l ≤ zs.length := by rw [hz]; split <;> omega
    have hlen : (zs.take l).length = l := by rw [List.length_take]; omega
    refine ⟨some a, c, zs.take l, by rw [hlen]; exact hcs, ?_, fun n hn => hwz n (List.mem_of_mem_take hn), ?_⟩
    · intro i y hy
      rw [List.getElem?_map, List.getElem?_take] at hy
      split at hy
      · rename_i hi
        have hi2 : i < zs.length := by omega
        rw [List.getElem?_eq_getElem hi2] at hy
        simp at hy; subst hy
        rw [hcell i hi2, List.getD_eq_getElem?_getD, List.getElem?_eq_getElem hi2]; rfl
      · simp at hy
    · rw [hx]
      simp only [Go.Proofs.YtkgngbpkiklckaaGreatDoor.Rows.uptoBulk, bulkS_lits]; omega
theorem flattenS {α β : Type} {f : α → List β} : ∀ (Cs : List (List β)), (∀ cs ∈ Cs, ∃ a, cs = f a) → ∃ l : List α, Cs = l.map f
  | [], _ => ⟨[], rfl⟩
  | c :: r, h => by
    obtain ⟨a, ha⟩ := h c (by simp)
    obtain ⟨l, hl⟩ := flattenS r (fun cs hcs => h cs (by simp [hcs]))
    exact ⟨a :: l, by rw [ha, hl]; rfl⟩
section
variable {H : Type} {enc : TypeId × Value → H} {w : World} {base : Nat} {sp : Nat → Bool} {held : Bool} {fuel : Nat} {d : DataW H} {ps : List MemPlace}
/-- a list of events -/
theorem rd_evs {a : Option Addr} {len cap : Nat} (h : DataW.trod enc Tryz.prog w base sp held fuel 28 (Value.slice a len cap).cells.toList = some (d, ps)) :
    ∃ xs : List Ev, (ReadS w a (evsC xs) ∧ xs.length = len ∧ len ≤ cap) ∧ xs.length ≤ Go.Proofs.YtkgngbpkiklckaaGreatDoor.Rows.uptoBulk d := by
  obtain ⟨n, Cs, D, h1, h2, h3, h4, h5, hcap, _⟩ := trod_recs (m := 3) Tryz.underlying28 (by kernel_rfl) h
  have hall : Go.Proofs.YtkgngbpkiklckaaGreatDoor.Rows.uptoBulkAll D ≤ Go.Proofs.YtkgngbpkiklckaaGreatDoor.Rows.uptoBulk d := by
    rcases h5 with ⟨e1, e2⟩ | ⟨spp, e1⟩
    · rw [e2]; simp [Go.Proofs.YtkgngbpkiklckaaGreatDoor.Rows.uptoBulkAll]
    · dsimp only at e1
      rw [e1]
      simp only [Go.Proofs.YtkgngbpkiklckaaGreatDoor.Rows.uptoBulk]; omega
  have key : ∀ cs ∈ Cs, ∃ x : Ev, cs = evC x := by
    intro cs hcs
    obtain ⟨i, hi⟩ := List.getElem?_of_mem hcs
    obtain ⟨g1, d', p', g3, g2⟩ := h4 i cs hi
    obtain ⟨xs, m, _, gx, _, g5, g6⟩ := DataW.trod_struct Tryz.underlying86 g2
    match cs, g1 with
    | [c0, c1, c2], _ =>
      have f0 := g6 0 _ rfl
      have f1 := g6 1 _ rfl
      have f2 := g6 2 _ rfl
      have l6 : xs.length = 3 := g5
      rw [List.getElem?_eq_getElem (by omega)] at f0 f1 f2
      obtain ⟨z0, rfl, w0⟩ := trod_int (k := .i64) (by kernel_rfl) f0
      obtain ⟨z1, rfl, w1⟩ := trod_int (k := .i64) (by kernel_rfl) f1
      obtain ⟨z2, rfl, w2⟩ := trod_int (k := .i64) (by kernel_rfl) f2
      exact ⟨⟨z0, z1, z2⟩, rfl⟩
  obtain ⟨xs, hxs⟩ := flattenS (f := evC) Cs key
  have hl : xs.length = len := by rw [← h1, hxs]; simp
  refine ⟨xs, ⟨?_, hl, hcap⟩, ?_⟩
  · rw [hxs] at h3
    unfold evsC
    rw [List.flatMap_def]; exact h3
  · rw [hl, ← h2]
    have := bulkS_lenA D
    omega
/-- a shape -/
theorem rd_shp {cs : Array Value} (h : DataW.trod enc Tryz.prog w base sp held fuel 27 (Value.agg cs).cells.toList = some (d, ps)) :
    ∃ (s : Shp) (pad : Option Addr) (cap : Nat), (cs = ⟨shC s pad cap⟩ ∧ ReadS w pad (s.pa.map I)) ∧ s.pa.length ≤ Go.Proofs.YtkgngbpkiklckaaGreatDoor.Rows.uptoBulk d := by
  have h : DataW.trod enc Tryz.prog w base sp held fuel 27 cs.toList = some (d, ps) := h
  obtain ⟨xs, m, _, gx, g1, g5, g6⟩ := DataW.trod_struct Tryz.underlying27 h
  have gd := congrArg Prod.fst gx
  dsimp only at gd
  obtain ⟨cs⟩ := cs
  have g1 : cs.length = 5 := g1
  match cs, g1 with
  | [c0, c1, c2, c3, c4], _ =>
    have f0 := g6 0 _ rfl
    have f1 := g6 1 _ rfl
    have f2 := g6 2 _ rfl
    have f3 := g6 3 _ rfl
    have f4 := g6 4 _ rfl
    have l6 : xs.length = 5 := g5
    rw [List.getElem?_eq_getElem (by omega)] at f0 f1 f2 f3 f4
    obtain ⟨z0, rfl, w0⟩ := trod_int (k := .i64) (by kernel_rfl) f0
    obtain ⟨z1, rfl, w1⟩ := trod_int (k := .i64) (by kernel_rfl) f1
    obtain ⟨z2, rfl, w2⟩ := trod_int (k := .i64) (by kernel_rfl) f2
    obtain ⟨z3, rfl, w3⟩ := trod_int (k := .i64) (by kernel_rfl) f3
    obtain ⟨a4, c4, z4, rfl, r4, q4, s4⟩ := rdS_row Tryz.underlying25 Tryz.underlying3 (by kernel_rfl) f4
    have m4 : Go.Proofs.YtkgngbpkiklckaaGreatDoor.Rows.uptoBulk xs[4].1 ≤ Go.Proofs.YtkgngbpkiklckaaGreatDoor.Rows.uptoBulkAll (xs.map (·.1)) := bulkS_mem (List.mem_map.2 ⟨_, List.getElem_mem _, rfl⟩)
    refine ⟨⟨z0, z1, z2, z3, z4⟩, a4, c4, ⟨rfl, r4⟩, ?_⟩
    rw [gd]
    simp only [Go.Proofs.YtkgngbpkiklckaaGreatDoor.Rows.uptoBulk]
    omega
end
end Go.Vc
/- what the rows' reading of a question (a tree, a shape, events, names) says. -/
namespace Go.Vc
open Go Go.Proofs Go.ChangeShapes
set_option maxRecDepth 10000
/-- a question as it came in -/
structure AG where
  txt : List UInt8
  l : List QN
  s : Shp
  E : List Ev
  fuel : Int
  fr : List UInt8
  tt : List UInt8
  qad : Option Addr
  qcap : Nat
  pad : Option Addr
  pcap : Nat
  ead : Option Addr
  ecap : Nat
def AG.C (x : AG) : List Value := [S x.txt, .slice x.qad x.l.length x.qcap, I x.s.th, I x.s.va, I x.s.vo, I x.s.lo, .slice x.pad x.s.pa.length x.pcap, .slice x.ead x.E.length x.ecap, I x.fuel, S x.fr, S x.tt]
structure AG.Ok (w : World) (x : AG) : Prop where
  rows : Rows w x.qad x.qcap x.l
  txt : x.txt.length ≤ 1048576
  fr : x.fr.length ≤ 1048576
  tt : x.tt.length ≤ 1048576
  pa : ReadS w x.pad (x.s.pa.map I)
  pal : x.s.pa.length ≤ 1048576
  ev : ReadS w x.ead (evsC x.E)
  evl : x.E.length ≤ 1048576
  evc : x.E.length ≤ x.ecap
  fuel : -9223372036854775808 ≤ x.fuel ∧ x.fuel ≤ 9223372036854775807
section
variable {H : Type} {enc : TypeId × Value → H} {w : World} {base : Nat} {sp : Nat → Bool} {held : Bool} {fuel : Nat} {d : DataW H} {ps : List MemPlace}
end
end Go.Vc
/- Query: what fuel does; few; loads out of a question. -/
namespace Go.Vc
open Go Go.Proofs
set_option maxRecDepth 20000
variable {w : World}
structure FuelL (r : Rep) (fuel : Int) (b c d : Rep × Int) : Prop where
  s1 : 1 ≤ r.steps
  s2 : r.steps ≤ fuel
  tr : r.sort = 2 → r.num = 0
  nu : r.sort = 1 → r.truth = false
  st : r.steps ≤ 67108864
  b : b = (r, 0)
  c : c = (rep0, 306)
  d : d = (r, 0)
/-- a part of a block -/
theorem Blk.sub {b : Nat} {vs : List Value} {T : TypeId} (h : Blk w b vs T) (o : Nat) (us : List Value) (hu : (vs.drop o).take us.length = us) : ∀ j v, us[j]? = some v → w.cell? ⟨b, o + j, none⟩ = some v := by
  intro j v hv
  refine h.cell ?_
  rw [← hu, List.getElem?_take] at hv
  split at hv
  · rwa [List.getElem?_drop] at hv
  · cases hv
section
variable {P : Program} {n : Nat} {e : Env} {K : EPost} {all : List Oper} {G : List Nat} {ro : Ro} {dst : Option Tmp} {ty : TypeId} {pos : String} {after : Array Edge} {g : Option (Nat × Bool)} {l : List Oper}
/-- one plain operation alone whose truth is known -/
theorem o_pureB {op : Op} {c : Bool} (b : Bool) (hp : pureOp P e op = some (none, .bool c)) (hc : c = b) (hd : dOk n dst = true) (hm : may all G e g = some true) (k : Ops ro P n all G K l (put e dst (.bool b)) w) : Ops ro P n all G K (⟨dst, op, ty, pos, after, g⟩ :: l) e w :=
  o_pure1 (by rw [hp, hc]) hd hm k
end
end Go.Vc
