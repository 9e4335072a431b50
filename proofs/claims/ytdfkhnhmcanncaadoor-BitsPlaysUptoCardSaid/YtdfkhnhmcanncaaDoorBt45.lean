/- bits: Keep, Drop, Turn, Copy of places. -/
import Derived.Test.YtdfkhnhmcanncaaDoorBt43
import Derived.Test.YtdfkhnhmcanncaaDoorVcMx
namespace Go.Vc
open Go Go.Proofs
set_option maxRecDepth 10000
variable {w : World}
section
variable {o o2 : Option Sl}
theorem Half.after {w1 w2 : World} {l' : List Nat} {s : Sl} (h : Half w (some s) w1 l') (hk : Kp [] w1 w2) : Half w (some s) w2 l' := by
  obtain ⟨ws', ad', cap', h1, h2, h3⟩ := h
  exact ⟨ws', ad', cap', ⟨h1.at_.kp hk (by simp), h1.kp.trans (hk.mono (by simp)), h1.new⟩, h2, h3⟩
def codeT : Option Sl → Option Sl → Int
  | some _, some _ => 0
  | _, _ => 1
theorem codeT_none (o : Option Sl) : codeT o none = 1 := by cases o <;> rfl
def merO (b1 b2 b3 : Bool) : Option Sl → Option Sl → List Nat
  | some s, some t => mergeL (elems s.ws) (elems t.ws) b1 b2 b3
  | o, _ => el o
theorem merO_none (b1 b2 b3 : Bool) (o : Option Sl) : merO b1 b2 b3 o none = el o := by cases o <;> rfl
/-- the one place, or places that share nothing -/
def Two (o o2 : Option Sl) : Prop := o2 = o ∨ ∀ b, b ∈ slb o2 → b ∉ slb o
theorem Two.apart {s t : Sl} (h : ∀ b, b ∈ slb (some t) → b ∉ slb (some s)) : Apart s.p s.ad t.p t.ad := fun b hb hb2 => h b (List.mem_append_left _ hb) (List.mem_append_left _ hb2)
/-- a copy of the document's list -/
theorem refCopyO {o : Option Sl} {l : List Nat} {q : Option (Nat × Option Addr × Nat)} (hT : TabW w) (hq : ∀ x, q = some x → RefAt w x.1 l x.2.1 x.2.2) (hl : l.length ≤ 1048576) :
    Ret Tryd.prog 74 [optr (q.map (·.1))] w (fun v w' => (q = none ∧ v = .pointer none ∧ w' = w) ∨ (q.isSome = true ∧ ∃ p' ad' cap', v = ptr p' ∧ NewRef w p' w' l ad' cap')) := by
  cases q with
  | none => exact refCopy_nil.mono fun v w' ⟨h1, h2⟩ => .inl ⟨rfl, h1, h2⟩
  | some x => exact (refCopy_ret hT (hq x rfl) (by omega)).mono fun v w' h => .inr ⟨rfl, h⟩
/-- a copy of a place's set -/
theorem CopyO (hT : TabW w) (h : SlAt w o) : Ret Tryd.prog 46 [sv o] w (fun v w' => ∃ q : Option (Nat × Option Addr × Nat), v = .pointer (q.map fun x => ⟨x.1, 0, none⟩) ∧ (q = none ↔ o = none) ∧ Kp [] w w' ∧ ∀ x, q = some x → NewSet w x.1 w' (wo o) x.2.1 x.2.2) := by
  cases o with
  | none => exact Copy_nil.mono fun v w' ⟨h1, h2⟩ => ⟨none, h1, by simp, by rw [h2]; exact Kp.refl _ _, by simp⟩
  | some s => exact (Copy_ret hT (h s rfl).set).mono fun v w' ⟨p', ad', cap', h1, h2⟩ => ⟨some (p', ad', cap'), h1, by simp, h2.kp, fun x hx => by cases hx; exact h2⟩
/-- a copy of a place's document set -/
theorem refCopyP (hT : TabW w) (h : SlAt w o) : Ret Tryd.prog 74 [rv o] w (fun v w' => ∃ q : Option (Nat × Option Addr × Nat), v = .pointer (q.map fun x => ⟨x.1, 0, none⟩) ∧ (q = none ↔ o = none) ∧ Kp [] w w' ∧ ∀ x, q = some x → NewRef w x.1 w' (el o) x.2.1 x.2.2) := by
  cases o with
  | none => exact refCopy_nil.mono fun v w' ⟨h1, h2⟩ => ⟨none, h1, by simp, by rw [h2]; exact Kp.refl _ _, by simp⟩
  | some s =>
    have hl := (h s rfl).ris.len
    exact (refCopy_ret (l := elems s.ws) hT (h s rfl).ref (by omega)).mono fun v w' ⟨p', ad', cap', h1, h2⟩ => ⟨some (p', ad', cap'), h1, by simp, h2.kp, fun x hx => by cases hx; exact h2⟩
/-- what a copy of a place's list leaves -/
theorem refCopyS (hT : TabW w) (h : ∀ s, o = some s → RefAt w s.q (elems s.ws) s.adr s.capr ∧ Ris (elems s.ws)) : Ret Tryd.prog 74 [rv o] w (fun v w' => (o = none ∧ v = .pointer none ∧ w' = w) ∨ (o ≠ none ∧ ∃ p' ad' cap', v = ptr p' ∧ NewRef w p' w' (el o) ad' cap')) := by
  cases o with
  | none => exact refCopy_nil.mono fun v w' ⟨h1, h2⟩ => .inl ⟨rfl, h1, h2⟩
  | some s =>
    obtain ⟨h1, h2⟩ := h s rfl
    have hl := h2.len
    exact (refCopy_ret (l := elems s.ws) hT h1 (by omega)).mono fun v w' h => .inr ⟨by simp, h⟩
theorem SlAt.refs (h : SlAt w o) : ∀ s, o = some s → RefAt w s.q (elems s.ws) s.adr s.capr ∧ Ris (elems s.ws) := fun s hs => ⟨(h s hs).ref, (h s hs).ris⟩
theorem Half.refs {w1 : World} {l' : List Nat} (h : SlAt w o) (k : SlAt w o2) (h2 : Two o o2) (hh : Half w o w1 l') : ∀ s, o2 = some s → RefAt w1 s.q (elems s.ws) s.adr s.capr ∧ Ris (elems s.ws) := by
  rintro s rfl
  refine ⟨?_, (k s rfl).ris⟩
  rcases h2 with e | hx
  · subst e
    exact hh.ref (h s rfl)
  · exact (k s rfl).ref.kp (hh.kp h) fun b hb => hx b (List.mem_append_right _ hb)
theorem KeepO (hT : TabW w) (h : SlAt w o) (k : SlAt w o2) (h2 : Two o o2) : Ret Tryd.prog 48 [sv o, sv o2] w (fun v w' => v = I (codeT o o2) ∧ Half w o w' (merO true false false o o2)) := by
  cases o with
  | none => exact (Keep_nil _).mono fun v w' ⟨h1, h2⟩ => ⟨h1, h2⟩
  | some s =>
    have hs := h s rfl
    cases o2 with
    | none => exact (Keep_nil2 hs.set).mono fun v w' ⟨h1, h2⟩ => ⟨h1, by rw [h2]; exact Half.same h⟩
    | some t =>
      have ht := k t rfl
      rcases h2 with e | hx
      · cases e
        exact (Keep_self hs.set).mono fun v w' ⟨h1, h2⟩ => ⟨h1, _, _, _, h2, tr_trim _, elems_keepW _ _ hs.ris hs.ris⟩
      · exact (Keep_ret hs.set ht.set (Two.apart hx)).mono fun v w' ⟨h1, h2⟩ => ⟨h1, _, _, _, h2, tr_trim _, elems_keepW _ _ hs.ris ht.ris⟩
theorem refKeepO {w1 w2 : World} {vc : Value} (hT : TabW w) (h : SlAt w o) (k : SlAt w o2) (hh : Half w o w1 (merO true false false o o2)) (hc : (o2 = none ∧ vc = .pointer none ∧ w2 = w1) ∨ (o2 ≠ none ∧ ∃ p' ad' cap', vc = ptr p' ∧ NewRef w1 p' w2 (el o2) ad' cap')) :
    Ret Tryd.prog 95 [rv o, vc] w2 (fun v w' => v = I (codeT o o2) ∧ ∃ o', Turned w o w' o') := by
  have hT1 := hh.tab hT h
  rcases hc with ⟨rfl, rfl, rfl⟩ | ⟨hne, p', ad', cap', rfl, hn⟩
  · rw [codeT_none]
    rw [merO_none] at hh
    cases o with
    | none => exact (refKeep_nil none).mono fun v w' ⟨h1, h2⟩ => ⟨h1, none, by unfold Half at hh; rw [h2, hh]; exact Turned.none (Sm.refl _)⟩
    | some s => exact refKeep_nil2.mono fun v w' ⟨h1, h2⟩ => ⟨h1, by rw [h2]; exact hh.done (h s rfl) (RefTo.refl (hh.ref (h s rfl)))⟩
  · cases o2 with
    | none => exact absurd rfl hne
    | some t =>
      have ht := k t rfl
      cases o with
      | none => exact (refKeep_nil (some p')).mono fun v w' ⟨h1, h2⟩ => ⟨h1, none, by unfold Half at hh; rw [h2]; rw [hh] at hn; exact ⟨hn.kp.mono (by simp), SlAt.none, rfl, rfl, fun b hb => .inl hb⟩⟩
      | some s =>
        have hs := h s rfl
        have hr := (hh.ref hs).kp hn.kp (by simp)
        have hh2 := hh.after hn.kp
        exact (refKeep_ret (hT1.kp hn.kp (by simp)) hr hn.at_ hs.ris ht.ris).mono fun v w' ⟨h1, ad'', cap'', h2⟩ => ⟨h1, hh2.done hs h2⟩
theorem DropO (hT : TabW w) (h : SlAt w o) (k : SlAt w o2) (h2 : Two o o2) : Ret Tryd.prog 49 [sv o, sv o2] w (fun v w' => v = I (codeT o o2) ∧ Half w o w' (merO false true false o o2)) := by
  cases o with
  | none => exact (Drop_nil _).mono fun v w' ⟨h1, h2⟩ => ⟨h1, h2⟩
  | some s =>
    have hs := h s rfl
    cases o2 with
    | none => exact (Drop_nil2 hs.set).mono fun v w' ⟨h1, h2⟩ => ⟨h1, by rw [h2]; exact Half.same h⟩
    | some t =>
      have ht := k t rfl
      rcases h2 with e | hx
      · cases e
        exact (Drop_self hs.set).mono fun v w' ⟨h1, h2⟩ => ⟨h1, _, _, _, h2, tr_trim _, elems_dropW _ hs.set.ok hs.ris hs.ris⟩
      · exact (Drop_ret hs.set ht.set (Two.apart hx)).mono fun v w' ⟨h1, h2⟩ => ⟨h1, _, _, _, h2, tr_trim _, elems_dropW _ ht.set.ok hs.ris ht.ris⟩
theorem refDropO {w1 w2 : World} {vc : Value} (hT : TabW w) (h : SlAt w o) (k : SlAt w o2) (hh : Half w o w1 (merO false true false o o2)) (hc : (o2 = none ∧ vc = .pointer none ∧ w2 = w1) ∨ (o2 ≠ none ∧ ∃ p' ad' cap', vc = ptr p' ∧ NewRef w1 p' w2 (el o2) ad' cap')) :
    Ret Tryd.prog 96 [rv o, vc] w2 (fun v w' => v = I (codeT o o2) ∧ ∃ o', Turned w o w' o') := by
  have hT1 := hh.tab hT h
  rcases hc with ⟨rfl, rfl, rfl⟩ | ⟨hne, p', ad', cap', rfl, hn⟩
  · rw [codeT_none]
    rw [merO_none] at hh
    cases o with
    | none => exact (refDrop_nil none).mono fun v w' ⟨h1, h2⟩ => ⟨h1, none, by unfold Half at hh; rw [h2, hh]; exact Turned.none (Sm.refl _)⟩
    | some s => exact refDrop_nil2.mono fun v w' ⟨h1, h2⟩ => ⟨h1, by rw [h2]; exact hh.done (h s rfl) (RefTo.refl (hh.ref (h s rfl)))⟩
  · cases o2 with
    | none => exact absurd rfl hne
    | some t =>
      have ht := k t rfl
      cases o with
      | none => exact (refDrop_nil (some p')).mono fun v w' ⟨h1, h2⟩ => ⟨h1, none, by unfold Half at hh; rw [h2]; rw [hh] at hn; exact ⟨hn.kp.mono (by simp), SlAt.none, rfl, rfl, fun b hb => .inl hb⟩⟩
      | some s =>
        have hs := h s rfl
        have hr := (hh.ref hs).kp hn.kp (by simp)
        have hh2 := hh.after hn.kp
        exact (refDrop_ret (hT1.kp hn.kp (by simp)) hr hn.at_ hs.ris ht.ris).mono fun v w' ⟨h1, ad'', cap'', h2⟩ => ⟨h1, hh2.done hs h2⟩
theorem TurnO (hT : TabW w) (h : SlAt w o) (k : SlAt w o2) (h2 : Two o o2) : Ret Tryd.prog 50 [sv o, sv o2] w (fun v w' => v = I (codeT o o2) ∧ Half w o w' (merO false true true o o2)) := by
  cases o with
  | none => exact (Turn_nil _).mono fun v w' ⟨h1, h2⟩ => ⟨h1, h2⟩
  | some s =>
    have hs := h s rfl
    cases o2 with
    | none => exact (Turn_nil2 hs.set).mono fun v w' ⟨h1, h2⟩ => ⟨h1, by rw [h2]; exact Half.same h⟩
    | some t =>
      have ht := k t rfl
      rcases h2 with e | hx
      · cases e
        exact (Turn_self hT hs.set).mono fun v w' ⟨h1, ad', cap', h2⟩ => ⟨h1, _, ad', cap', h2, tr_trim _, elems_turnW _ _ hs.ris hs.ris⟩
      · exact (Turn_ret hT hs.set ht.set (Two.apart hx)).mono fun v w' ⟨h1, ad', cap', h2⟩ => ⟨h1, _, ad', cap', h2, tr_trim _, elems_turnW _ _ hs.ris ht.ris⟩
theorem refTurnO {w1 w2 : World} {vc : Value} (hT : TabW w) (h : SlAt w o) (k : SlAt w o2) (hh : Half w o w1 (merO false true true o o2)) (hc : (o2 = none ∧ vc = .pointer none ∧ w2 = w1) ∨ (o2 ≠ none ∧ ∃ p' ad' cap', vc = ptr p' ∧ NewRef w1 p' w2 (el o2) ad' cap')) :
    Ret Tryd.prog 97 [rv o, vc] w2 (fun v w' => v = I (codeT o o2) ∧ ∃ o', Turned w o w' o') := by
  have hT1 := hh.tab hT h
  rcases hc with ⟨rfl, rfl, rfl⟩ | ⟨hne, p', ad', cap', rfl, hn⟩
  · rw [codeT_none]
    rw [merO_none] at hh
    cases o with
    | none => exact (refTurn_nil none).mono fun v w' ⟨h1, h2⟩ => ⟨h1, none, by unfold Half at hh; rw [h2, hh]; exact Turned.none (Sm.refl _)⟩
    | some s => exact refTurn_nil2.mono fun v w' ⟨h1, h2⟩ => ⟨h1, by rw [h2]; exact hh.done (h s rfl) (RefTo.refl (hh.ref (h s rfl)))⟩
  · cases o2 with
    | none => exact absurd rfl hne
    | some t =>
      have ht := k t rfl
      cases o with
      | none => exact (refTurn_nil (some p')).mono fun v w' ⟨h1, h2⟩ => ⟨h1, none, by unfold Half at hh; rw [h2]; rw [hh] at hn; exact ⟨hn.kp.mono (by simp), SlAt.none, rfl, rfl, fun b hb => .inl hb⟩⟩
      | some s =>
        have hs := h s rfl
        have hr := (hh.ref hs).kp hn.kp (by simp)
        have hh2 := hh.after hn.kp
        exact (refTurn_ret (hT1.kp hn.kp (by simp)) hr hn.at_ hs.ris ht.ris).mono fun v w' ⟨h1, ad'', cap'', h2⟩ => ⟨h1, hh2.done hs h2⟩
end
end Go.Vc
/- bits: Join of places. -/
namespace Go.Vc
open Go Go.Proofs
set_option maxRecDepth 10000
variable {w : World}
section
variable {sl : Nat → Option Sl} {on : Nat} {idx : List Nat}
def jn (sl : Nat → Option Sl) (on : Nat) (idx : List Nat) : Bool × Int × List Nat :=
  if (sl on).isNone || idx.any (fun j => (sl j).isNone) then (false, 1, el (sl on))
  else (decide ((el (sl on)).length < (joinL (fun j => el (sl j)) idx (el (sl on))).length), 0, joinL (fun j => el (sl j)) idx (el (sl on)))
/-- places 0 to 3 -/
structure Four (w : World) (sl : Nat → Option Sl) : Prop where
  at_ : ∀ j, j < 4 → SlAt w (sl j)
  apart : ∀ i j b, i < 4 → j < 4 → i ≠ j → b ∈ slb (sl i) → b ∉ slb (sl j)
theorem Four.inj (h : Four w sl) {i j : Nat} {s t : Sl} (hi : i < 4) (hj : j < 4) (hs : sl i = some s) (ht : sl j = some t) (e : s.p = t.p) : i = j := by
  by_cases hij : i = j
  · exact hij
  · exact absurd (show s.p ∈ slb (sl j) by rw [ht, e]; simp [slb]) (h.apart i j s.p hi hj hij (by rw [hs]; simp [slb]))
/-- the words at a pointer -/
def wat (sl : Nat → Option Sl) (q : Nat) : List Nat :=
  match (List.range 4).find? (fun j => (sl j).map (·.p) == some q) with
  | some j => wo (sl j)
  | none => []
theorem Four.wat (h : Four w sl) {j : Nat} {s : Sl} (hj : j < 4) (hs : sl j = some s) : wat sl s.p = s.ws := by
  unfold Go.Vc.wat
  cases hf : (List.range 4).find? (fun j => (sl j).map (·.p) == some s.p) with
  | none =>
    have := List.find?_eq_none.1 hf j (by simpa using hj)
    simp [hs] at this
  | some i =>
    have h1 := List.find?_some hf
    have h2 := List.mem_of_find?_eq_some hf
    have hi : i < 4 := by simpa using h2
    dsimp only at h1 ⊢
    cases hsi : sl i with
    | none => rw [hsi] at h1; simp at h1
    | some t =>
      rw [hsi] at h1
      simp at h1
      have := h.inj hi hj hsi hs h1
      subst this
      rw [hs] at hsi
      cases hsi; rfl
theorem JoinO (hT : TabW w) (h : Four w sl) (hon : on < 4) (hidx : ∀ j ∈ idx, j < 4) {al : Option Addr} {cl : Nat} (hr : ReadS w al (idx.map fun j => sv (sl j))) (hal : ∀ b, b ∈ blkOf al → b ∉ slb (sl on)) (hlen : idx.length ≤ 1048576) :
    Ret Tryd.prog 47 [sv (sl on), .slice al idx.length cl] w (fun v w' => v = .tuple #[.bool (jn sl on idx).1, I (jn sl on idx).2.1] ∧ Half w (sl on) w' (jn sl on idx).2.2) := by
  have hso := h.at_ on hon
  cases hs : sl on with
  | none =>
    have e : jn sl on idx = (false, 1, []) := by unfold jn; rw [hs]; rfl
    rw [e]
    exact (Join_nil _).mono fun v w' ⟨h1, h2⟩ => ⟨h1, h2⟩
  | some s =>
    have hS := hso s hs
    by_cases hn : ∃ j ∈ idx, sl j = none
    · have e : jn sl on idx = (false, 1, elems s.ws) := by
        obtain ⟨j, hj, hjn⟩ := hn
        unfold jn
        rw [if_pos]
        · rw [hs]; rfl
        · rw [Bool.or_eq_true, List.any_eq_true]
          exact .inr ⟨j, hj, by rw [hjn]; rfl⟩
      rw [e]
      have hr' : ReadS w al ((idx.map fun j => (sl j).map (·.p)).map optr) := by
        have : (idx.map fun j => (sl j).map (·.p)).map optr = idx.map fun j => sv (sl j) := by
          rw [List.map_map]
          apply List.map_congr_left
          intro j _
          simp only [Function.comp]
          cases sl j <;> rfl
        rw [this]; exact hr
      have := Join_bad hS.set hr' (co := cl) (by simp; omega) (fun q hq => by
        rw [List.mem_map] at hq
        obtain ⟨j, hj, hjq⟩ := hq
        cases hsj : sl j with
        | none => rw [hsj] at hjq; simp at hjq
        | some t =>
          rw [hsj] at hjq
          simp at hjq
          rw [← hjq]
          exact ⟨_, _, _, (h.at_ j (hidx j hj) t hsj).set⟩) (by
        obtain ⟨j, hj, hjn⟩ := hn
        rw [List.mem_map]
        exact ⟨j, hj, by rw [hjn]; rfl⟩)
      rw [List.length_map] at this
      exact this.mono fun v w' ⟨h1, h2⟩ => ⟨h1, by rw [h2, ← hs]; have := Half.same hso; rw [hs] at this ⊢; exact this⟩
    · have hall : ∀ j ∈ idx, ∃ t, sl j = some t := fun j hj => by
        cases hsj : sl j with
        | none => exact absurd ⟨j, hj, hsj⟩ hn
        | some t => exact ⟨t, rfl⟩
      obtain ⟨qs, hqs⟩ : ∃ qs : List Nat, idx.map (fun j => sv (sl j)) = qs.map ptr ∧ qs = idx.map (fun j => ((sl j).map (·.p)).getD 0) := by
        refine ⟨_, ?_, rfl⟩
        rw [List.map_map]
        apply List.map_congr_left
        intro j hj
        obtain ⟨t, ht⟩ := hall j hj
        simp only [Function.comp, ht]; rfl
      have hql : qs.length = idx.length := by rw [hqs.2]; simp
      have hmem : ∀ q, q ∈ qs → ∃ j t, j ∈ idx ∧ sl j = some t ∧ t.p = q := fun q hq => by
        rw [hqs.2, List.mem_map] at hq
        obtain ⟨j, hj, e⟩ := hq
        obtain ⟨t, ht⟩ := hall j hj
        rw [ht] at e
        exact ⟨j, t, hj, ht, e⟩
      rw [hqs.1] at hr
      have hother : ∀ q, q ∈ qs → OtherAt w s.p s.ad (wat sl) q := fun q hq => by
        obtain ⟨j, t, hj, ht, e⟩ := hmem q hq
        by_cases hjo : j = on
        · subst hjo
          rw [hs] at ht; cases ht
          exact ⟨.inl e.symm⟩
        · refine ⟨.inr ⟨t.ad, t.cap, ?_, ?_⟩⟩
          · rw [← e, h.wat (hidx j hj) ht]; exact (h.at_ j (hidx j hj) t ht).set
          · rw [← e]
            exact Two.apart fun b hb => by rw [← hs]; exact h.apart j on b (hidx j hj) hon hjo (by rw [ht]; exact hb)
      have hj := Join_ret hT hS.set hr (co := cl) (fun b hb hb2 => hal b hb (by rw [hs]; exact List.mem_append_left _ hb2)) (by omega) (wat sl) hother
      rw [hql] at hj
      have hje := join_eq (p := s.p) (F := wat sl) (G := fun j => el (sl j)) (ws := s.ws) (qs := qs) (gs := idx) hS.set.ok hS.tr (fun q hq _ => by
        obtain ⟨j, t, hj, ht, e⟩ := hmem q hq
        have hat := h.at_ j (hidx j hj) t ht
        rw [← e, h.wat (hidx j hj) ht]
        exact ⟨hat.set.ok, hat.tr⟩) hS.ris (fun j hj => by
        obtain ⟨t, ht⟩ := hall j hj
        rw [ht]; exact (h.at_ j (hidx j hj) t ht).ris) (fun x hx => by
        constructor
        · rintro ⟨q, hq, _, hxq⟩
          obtain ⟨j, t, hj, ht, e⟩ := hmem q hq
          rw [← e, h.wat (hidx j hj) ht] at hxq
          exact ⟨j, hj, by rw [ht]; exact hxq⟩
        · rintro ⟨j, hj, hxj⟩
          obtain ⟨t, ht⟩ := hall j hj
          rw [ht] at hxj
          refine ⟨t.p, ?_, fun e => ?_, ?_⟩
          · rw [hqs.2, List.mem_map]; exact ⟨j, hj, by rw [ht]; rfl⟩
          · have := h.inj (hidx j hj) hon ht hs e
            subst this
            rw [hs] at ht; cases ht
            exact hx hxj
          · rw [h.wat (hidx j hj) ht]; exact hxj)
      have e : jn sl on idx = (decide ((elems s.ws).length < (joinL (fun j => el (sl j)) idx (elems s.ws)).length), 0, joinL (fun j => el (sl j)) idx (elems s.ws)) := by
        unfold jn
        rw [if_neg]
        · rw [hs]; rfl
        · rw [hs, Bool.or_eq_true, List.any_eq_true]
          rintro (h1 | ⟨j, hj, h1⟩)
          · cases h1
          · obtain ⟨t, ht⟩ := hall j hj
            rw [ht] at h1; cases h1
      rw [e]
      exact hj.mono fun v w' ⟨h1, ad', cap', h2⟩ => ⟨by rw [h1, hje.2.2], _, ad', cap', h2, hje.1, hje.2.1⟩
theorem joinL_map (G : Nat → List Nat) (qs l : List Nat) : joinL G qs l = (qs.map G).foldl (fun l m => m.foldl withL l) l := by
  unfold joinL
  induction qs generalizing l with
  | nil => rfl
  | cons q r ih => rw [List.foldl_cons, List.map_cons, List.foldl_cons, ih]
/-- a copy: none, or a set of the document's with its list's memory -/
abbrev Cp := Option (Nat × Option Addr × Nat)
abbrev cpv (c : Cp) : Value := .pointer (c.map fun y => ⟨y.1, 0, none⟩)
/-- the copies that were made of places -/
structure Cps (w : World) (sl : Nat → Option Sl) (idx : List Nat) (cps : List Cp) : Prop where
  len : cps.length = idx.length
  ok : ∀ (k j : Nat) (c : Cp), idx[k]? = some j → cps[k]? = some c → (c = none ↔ sl j = none) ∧ ∀ y, c = some y → RefAt w y.1 (el (sl j)) y.2.1 y.2.2
  inj : ∀ (k k' : Nat) (y y' : Nat × Option Addr × Nat), cps[k]? = some (some y) → cps[k']? = some (some y') → y.1 = y'.1 → k = k'
/-- the list at a copy's pointer -/
def gat (sl : Nat → Option Sl) (idx : List Nat) (cps : List Cp) (q : Nat) : List Nat :=
  match (List.range cps.length).find? (fun k => ((cps[k]?).getD none).map (·.1) == some q) with
  | some k => el (sl (idx.getD k 0))
  | none => []
theorem Cps.gat {cps : List Cp} (h : Cps w sl idx cps) {k j : Nat} {y : Nat × Option Addr × Nat} (hj : idx[k]? = some j) (hc : cps[k]? = some (some y)) : gat sl idx cps y.1 = el (sl j) := by
  unfold Go.Vc.gat
  have hk := (List.getElem?_eq_some_iff.1 hc).1
  cases hf : (List.range cps.length).find? (fun k => ((cps[k]?).getD none).map (·.1) == some y.1) with
  | none =>
    have := List.find?_eq_none.1 hf k (by simpa using hk)
    simp [hc] at this
  | some i =>
    have h1 := List.find?_some hf
    have hi : i < cps.length := by simpa using List.mem_of_find?_eq_some hf
    dsimp only at h1 ⊢
    have hci : cps[i]? = some cps[i] := List.getElem?_eq_getElem hi
    rw [hci] at h1
    cases hz : cps[i] with
    | none => rw [hz] at h1; simp at h1
    | some z =>
      rw [hz] at h1 hci
      simp at h1
      have := h.inj i k z y hci hc h1
      subst this
      rw [List.getD_eq_getElem?_getD, hj]; rfl
theorem refJoinO {w1 : World} {cps : List Cp} (hT : TabW w) (h : Four w sl) (hon : on < 4) (hidx : ∀ j ∈ idx, j < 4) (hh : Half w (sl on) w1 (jn sl on idx).2.2) (hcp : Cps w1 sl idx cps) (hlen : idx.length ≤ 1048576)
    {am : Option Addr} {cm : Nat} (hr : ReadS w1 am (cps.map cpv)) (hap : ∀ b, b ∈ blkOf am → b ∉ slb (sl on)) (hcap : ∀ y, some y ∈ cps → ∀ b, b ∈ y.1 :: blkOf y.2.1 → b ∉ slb (sl on)) :
    Ret Tryd.prog 94 [rv (sl on), .slice am idx.length cm] w1 (fun v w' => v = .tuple #[.bool (jn sl on idx).1, I (jn sl on idx).2.1] ∧ ∃ o', Turned w (sl on) w' o') := by
  have hso := h.at_ on hon
  have hT1 := hh.tab hT hso
  cases hs : sl on with
  | none =>
    have e : jn sl on idx = (false, 1, []) := by unfold jn; rw [hs]; rfl
    rw [e]
    rw [hs] at hh
    exact (refJoin_nil _).mono fun v w' ⟨h1, h2⟩ => ⟨h1, none, by unfold Half at hh; rw [h2, hh]; exact Turned.none (Sm.refl _)⟩
  | some s =>
    have hS := hso s hs
    rw [hs] at hh
    by_cases hn : ∃ j ∈ idx, sl j = none
    · have e : jn sl on idx = (false, 1, elems s.ws) := by
        obtain ⟨j, hj, hjn⟩ := hn
        unfold jn
        rw [if_pos]
        · rw [hs]; rfl
        · rw [Bool.or_eq_true, List.any_eq_true]
          exact .inr ⟨j, hj, by rw [hjn]; rfl⟩
      rw [e] at hh ⊢
      have hr' : ReadS w1 am ((cps.map fun c => c.map (·.1)).map optr) := by
        have : (cps.map fun c => c.map (·.1)).map optr = cps.map cpv := by
          rw [List.map_map]
          apply List.map_congr_left
          intro c _
          simp only [Function.comp]
          cases c <;> rfl
        rw [this]; exact hr
      have hl := hcp.len
      have := refJoin_bad (p := s.q) (co := cm) hr' (by simp; omega) (by
        obtain ⟨j, hj, hjn⟩ := hn
        obtain ⟨k, hk⟩ := List.getElem?_of_mem hj
        have hkl := (List.getElem?_eq_some_iff.1 hk).1
        obtain ⟨c, hc⟩ : ∃ c, cps[k]? = some c := ⟨_, List.getElem?_eq_getElem (by omega)⟩
        have := ((hcp.ok k j c hk hc).1).2 hjn
        rw [List.mem_map]
        exact ⟨c, List.mem_of_getElem? hc, by rw [this]; rfl⟩)
      rw [List.length_map, hl] at this
      exact this.mono fun v w' ⟨h1, h2⟩ => ⟨h1, by rw [h2]; exact hh.done hS (RefTo.refl (hh.ref hS))⟩
    · have hall : ∀ j ∈ idx, ∃ t, sl j = some t := fun j hj => by
        cases hsj : sl j with
        | none => exact absurd ⟨j, hj, hsj⟩ hn
        | some t => exact ⟨t, rfl⟩
      have hl := hcp.len
      have hsome : ∀ k j c, idx[k]? = some j → cps[k]? = some c → ∃ y, c = some y := fun k j c hk hc => by
        cases c with
        | some y => exact ⟨y, rfl⟩
        | none =>
          obtain ⟨t, ht⟩ := hall j (List.mem_of_getElem? hk)
          have := ((hcp.ok k j none hk hc).1).1 rfl
          rw [ht] at this; cases this
      have hsome' : ∀ c ∈ cps, ∃ y, c = some y := fun c hc => by
        obtain ⟨k, hk⟩ := List.getElem?_of_mem hc
        have hkl := (List.getElem?_eq_some_iff.1 hk).1
        exact hsome k _ c (List.getElem?_eq_getElem (by omega)) hk
      obtain ⟨qs, hqs, hqd⟩ : ∃ qs : List Nat, cps.map cpv = qs.map ptr ∧ qs = cps.map (fun c => (c.map (·.1)).getD 0) := by
        refine ⟨_, ?_, rfl⟩
        rw [List.map_map]
        apply List.map_congr_left
        intro c hc
        obtain ⟨y, rfl⟩ := hsome' c hc
        rfl
      have hql : qs.length = idx.length := by rw [hqd, List.length_map]; exact hl
      have hmem : ∀ q, q ∈ qs → ∃ (k j : Nat) (y : Nat × Option Addr × Nat), idx[k]? = some j ∧ cps[k]? = some (some y) ∧ y.1 = q := fun q hq => by
        rw [hqd, List.mem_map] at hq
        obtain ⟨c, hc, e⟩ := hq
        obtain ⟨y, rfl⟩ := hsome' c hc
        obtain ⟨k, hk⟩ := List.getElem?_of_mem hc
        have hkl := (List.getElem?_eq_some_iff.1 hk).1
        exact ⟨k, _, y, List.getElem?_eq_getElem (by omega), hk, e⟩
      have hmap : qs.map (gat sl idx cps) = idx.map (fun j => el (sl j)) := by
        apply List.ext_getElem?
        intro k
        rw [List.getElem?_map, List.getElem?_map, hqd, List.getElem?_map]
        by_cases hk : k < idx.length
        · have hj : idx[k]? = some idx[k] := List.getElem?_eq_getElem hk
          obtain ⟨c, hc⟩ : ∃ c, cps[k]? = some c := ⟨_, List.getElem?_eq_getElem (by omega)⟩
          obtain ⟨y, rfl⟩ := hsome k _ c hj hc
          rw [hj, hc]
          simp only [Option.map_some, Option.getD_some]
          rw [hcp.gat hj hc]
        · rw [List.getElem?_eq_none (by omega), List.getElem?_eq_none (by omega)]; rfl
      rw [hqs] at hr
      have hjl : joinL (gat sl idx cps) qs (elems s.ws) = joinL (fun j => el (sl j)) idx (elems s.ws) := by rw [joinL_map, joinL_map, hmap]
      have hri : ∀ q ∈ qs, Ris (gat sl idx cps q) := fun q hq => by
        obtain ⟨k, j, y, h1, h2, rfl⟩ := hmem q hq
        rw [hcp.gat h1 h2]
        obtain ⟨t, ht⟩ := hall j (List.mem_of_getElem? h1)
        rw [ht]; exact (h.at_ j (hidx j (List.mem_of_getElem? h1)) t ht).ris
      have hj := refJoin_ret hT1 (hh.ref hS) hS.ris hr (co := cm) (fun b hb hb2 => hap b hb (by rw [hs]; exact List.mem_append_right _ hb2)) (by omega) (gat sl idx cps) hri (fun q hq => by
        obtain ⟨k, j, y, h1, h2, rfl⟩ := hmem q hq
        refine ⟨y.2.1, y.2.2, ?_, fun b hb hb2 => hcap y (List.mem_of_getElem? h2) b hb (by rw [hs]; exact List.mem_append_right _ hb2)⟩
        rw [hcp.gat h1 h2]
        exact (hcp.ok k j _ h1 h2).2 y rfl)
      rw [hql, hjl] at hj
      have e : jn sl on idx = (decide ((elems s.ws).length < (joinL (fun j => el (sl j)) idx (elems s.ws)).length), 0, joinL (fun j => el (sl j)) idx (elems s.ws)) := by
        unfold jn
        rw [if_neg]
        · rw [hs]; rfl
        · rw [hs, Bool.or_eq_true, List.any_eq_true]
          rintro (h1 | ⟨j, hj, h1⟩)
          · cases h1
          · obtain ⟨t, ht⟩ := hall j hj
            rw [ht] at h1; cases h1
      rw [e] at hh ⊢
      exact hj.mono fun v w' ⟨h1, ad', cap', h2⟩ => ⟨h1, hh.done hS h2⟩
end
end Go.Vc
/- bits: BitsPlays: what a step does beyond the first few. -/
namespace Go.Vc
open Go Go.Proofs
set_option maxRecDepth 10000
variable {w : World}

/-- a step -/
structure Opg where
  d : Int
  on : Int
  wi : Int
  n : Int
  na : Option Addr
  ns : List Int
  nc : Nat
  ua : Option Addr
  us : List Nat
  uc : Nat
def opC (x : Opg) : List Value := [I x.d, I x.on, I x.wi, I x.n, .slice x.na x.ns.length x.nc, .slice x.ua x.us.length x.uc]
def R64 (z : Int) : Prop := -9223372036854775808 ≤ z ∧ z ≤ 9223372036854775807
structure OpOk (w : World) (x : Opg) : Prop where
  nr : R64 x.n
  ns : ReadS w x.na (x.ns.map I)
  nl : x.ns.length ≤ 1048576
  nsr : ∀ z ∈ x.ns, R64 z
  us : ReadS w x.ua (x.us.map U)
  uok : WOk x.us
  ul : x.us.length ≤ 1048576
theorem OpOk.kp {w' : World} {x : Opg} (h : OpOk w x) (hk : Kp [] w w') : OpOk w' x := ⟨h.nr, h.ns.kp hk (by simp), h.nl, h.nsr, h.us.kp hk (by simp), h.uok, h.ul⟩
def fourN (x : Int) : Nat := (ibits .and .i64 x 3).toNat
theorem fourN_eq (x : Int) : ibits .and .i64 x 3 = (fourN x : Int) ∧ fourN x < 4 := by
  have h1 : (BitVec.ofInt 64 x &&& BitVec.ofInt 64 3).toNat ≤ 3 := by
    rw [BitVec.toNat_and]
    exact Nat.and_le_right
  have e : ibits .and .i64 x 3 = ((BitVec.ofInt 64 x &&& BitVec.ofInt 64 3).toNat : Int) := by
    show IntKind.i64.wrap ((BitVec.ofInt 64 x &&& BitVec.ofInt 64 3).toNat : Int) = _
    rw [IntKind.wrap_i64]
    omega
  unfold fourN
  rw [e]
  omega
theorem four_ret (n : Int) : Ret Tryd.prog 78 [I n] w (fun v w' => v = I (fourN n) ∧ w' = w) := by
  refine enter Tryd.call78 Tryd.func78 rfl rfl rfl rfl ?_
  (repeat first|refine zA ?_|refine zB ?_|refine zC ?_|refine zD ?_|refine zE ?_|refine zg ?_|refine zo rfl rfl (by first|exact trivial|(simp only[AllP];omega)|(simp(discharger:=omega)only[AllP,cA,cB];omega)|(simp only[AllP,cC,cD,cE,cF,cG];omega)) ?_|refine zn ?_|refine zb ?_|refine ze rfl ?_|refine zr ?_|refine zk ?_|refine zT rfl rfl rfl ?_|refine zU rfl rfl rfl ?_|refine zV rfl rfl rfl ?_|refine zf rfl ?_|refine zt rfl ?_)
  exact ⟨_, rfl, congrArg (fun z => Value.int .i64 z) (fourN_eq n).1, rfl⟩
section
variable {w0 : World} {W : Nat} {sl : Nat → Option Sl} {g : BGh}
/-- what a step leaves -/
def After (w0 : World) (W : Nat) (g : BGh) (w' : World) : Prop := ∃ sl' g', PX w0 w' W sl' g' ∧ g'.ents.length ≤ g.ents.length + 4 ∧ g'.sqs.length ≤ g.sqs.length + 1
theorem PX.after (h : PX w0 w W sl g) : After w0 W g w := ⟨sl, g, h, by omega, by omega⟩
theorem PX.turn {w' : World} {i : Nat} {o' : Option Sl} (h : PX w0 w W sl g) (hi : i < 4) (k : Turned w (sl i) w' o') : PX w0 w' W (up sl i o') g :=
  ⟨h.pi.turn hi k.kp k.at_ k.sv_ k.rv_ k.new, h.pc.kp k.kp (fun b hb hb2 => h.pi.dj.sep 12 i b (by omega) (by rw [dd_C]; exact hb) (by rw [dd_sl hi]; exact hb2)) (fun b hb => hb), h.rows⟩
theorem PX.two (h : PX w0 w W sl g) {i j : Nat} (hi : i < 4) (hj : j < 4) : Two (sl i) (sl j) := by
  by_cases e : j = i
  · exact .inl (by rw [e])
  · exact .inr fun b hb hb2 => h.pi.dj.sep j i b e (by rw [dd_sl hj]; exact hb) (by rw [dd_sl hi]; exact hb2)
theorem wf_sv {sl : Nat → Option Sl} {ad : Nat → Option Addr} {cp : Nat → Nat} {row : Nat → List Value} {i : Nat} (h : i < 4) : wf sl ad cp row i = sv (sl i) := by unfold wf; rw [if_pos h]
theorem wf_rv {sl : Nat → Option Sl} {ad : Nat → Option Addr} {cp : Nat → Nat} {row : Nat → List Value} {i : Nat} (h : i < 4) : wf sl ad cp row (4 + i) = rv (sl i) := by
  unfold wf; rw [if_neg (by omega), if_pos (by omega), Nat.add_sub_cancel_left]
theorem PX.svc (h : PX w0 w W sl g) {i : Nat} (hi : i < 4) : (rowL 15 (wf sl g.ad g.cp g.row))[i]? = some (sv (sl i)) := by rw [rowL_get _ (by omega), wf_sv hi]
theorem PX.rvc (h : PX w0 w W sl g) {i : Nat} (hi : i < 4) : (rowL 15 (wf sl g.ad g.cp g.row))[4 + i]? = some (rv (sl i)) := by rw [rowL_get _ (by omega), wf_rv hi]
theorem PX.place {w2 : World} {i : Nat} {s' : Option Sl} (h : PX w0 w W sl g) (hi : i < 4) (hs : SlAt w2 s') (haw : ∀ b, b ∈ slb s' → w0.heap.size ≤ b ∧ ∀ j, b ∉ DD sl W g.ad g.Cst j) (hk : Kp [W] w w2)
    (hb : Blk w2 W (((rowL 15 (wf sl g.ad g.cp g.row)).set i (sv s')).set (4 + i) (rv s')) 90) : PX w0 w2 W (up sl i s') g :=
  ⟨h.pi.place hi hs haw hk hb, h.pc.kp hk (fun b hb hb2 => h.pi.dj.sep 12 11 b (by omega) (by rw [dd_C]; exact hb) (by rw [dd_W]; exact hb2)) (fun b hb => hb), h.rows⟩
theorem PX.svu {i : Nat} {s' : Option Sl} (h : PX w0 w W (up sl i s') g) (hi : i < 4) : (rowL 15 (wf (up sl i s') g.ad g.cp g.row))[i]? = some (sv s') := by
  have := h.svc hi
  rwa [up_same] at this
theorem wo_len {o : Option Sl} (h : SlAt w o) : (wo o).length ≤ 16384 := by
  cases o with
  | none => simp [wo]
  | some s => exact (h s rfl).set.len
/-- lists that are held, and nobody's as yet -/
def Pend (w0 : World) (W : Nat) (sl : Nat → Option Sl) (g : BGh) (w : World) (a : Option Addr) : Prop := ∀ b, b ∈ blkOf a → b < w.heap.size ∧ w0.heap.size ≤ b ∧ ∀ i, b ∉ DD sl W g.ad g.Cst i
theorem Pend.away {a : Option Addr} (h : Pend w0 W sl g w a) : ∀ b, b ∈ blkOf a → w0.heap.size ≤ b ∧ ∀ i, b ∉ DD sl W g.ad g.Cst i := fun b hb => ⟨(h b hb).2.1, (h b hb).2.2⟩
theorem lt_of_some {w w' : World} {b : Nat} (h : b < w.heap.size) (e : w'.heap[b]? = w.heap[b]?) : b < w'.heap.size := by
  rw [Array.getElem?_eq_getElem h] at e
  exact (Array.getElem?_eq_some_iff.1 e).1
theorem Pend.next {w' : World} {g' : BGh} {a a' : Option Addr} (h : Pend w0 W sl g w a) (hf : ∀ b, b < w.heap.size → b ∉ blkOf a' → (∀ i, b ∉ DD sl W g.ad g.Cst i) → w'.heap[b]? = w.heap[b]? ∧ ∀ i, b ∉ DD sl W g'.ad g'.Cst i) (hd : ∀ b, b ∈ blkOf a → b ∉ blkOf a') : Pend w0 W sl g' w' a := fun b hb => by
  obtain ⟨h1, h2, h3⟩ := h b hb
  obtain ⟨h4, h5⟩ := hf b h1 (hd b hb) h3
  exact ⟨lt_of_some h1 h4, h2, h5⟩
theorem Pend.own {w' : World} {g' : BGh} {a a' : Option Addr} {T : TypeId} {n c : Nat} {xs : List Value} (h : Pend w0 W sl g w a) (hf : ∀ b, b < w.heap.size → b ∉ blkOf a' → (∀ i, b ∉ DD sl W g.ad g.Cst i) → w'.heap[b]? = w.heap[b]? ∧ ∀ i, b ∉ DD sl W g'.ad g'.Cst i) (hd : ∀ b, b ∈ blkOf a → b ∉ blkOf a') (ho : OwnS w T 1 a n c xs) : OwnS w' T 1 a n c xs :=
  ho.keep fun b hb => (hf b (h b hb).1 (hd b hb) (h b hb).2.2).1
theorem RefAt.keep {w' : World} {p : Nat} {l : List Nat} {ad : Option Addr} {cap : Nat} (h : RefAt w p l ad cap) (hk : ∀ b, b ∈ p :: blkOf ad → w'.heap[b]? = w.heap[b]?) : RefAt w' p l ad cap :=
  ⟨by have := h.hdr; unfold Blk at this ⊢; rw [hk p (by simp)]; exact this, h.own.keep fun b hb => hk b (List.mem_cons_of_mem _ hb), h.far⟩
theorem PX.four (h : PX w0 w W sl g) : Four w sl := ⟨h.pi.slots, fun i j b hi hj hij hb => by
  have := h.pi.dj.sep i j b hij (by rw [dd_sl hi]; exact hb)
  rwa [dd_sl hj] at this⟩
structure JG where
  i : Nat
  al : Option Addr
  cl : Nat
  am : Option Addr
  cm : Nat
  cps : List Cp
structure JI (w2 wc : World) (sl : Nat → Option Sl) (x : Opg) (j : JG) : Prop where
  kp : Kp [] w2 wc
  l : OwnS wc 25 1 j.al j.i j.cl (((x.ns.take j.i).map fourN).map fun k => sv (sl k))
  m : OwnS wc 43 1 j.am j.i j.cm (j.cps.map cpv)
  cps : Cps wc sl ((x.ns.take j.i).map fourN) j.cps
  le : j.i ≤ x.ns.length
  nl : ∀ b, b ∈ blkOf j.al → w2.heap.size ≤ b
  nm : ∀ b, b ∈ blkOf j.am → w2.heap.size ≤ b
  nc : ∀ y, some y ∈ j.cps → ∀ b, b ∈ y.1 :: blkOf y.2.1 → w2.heap.size ≤ b ∧ b < wc.heap.size ∧ b ∉ blkOf j.al ∧ b ∉ blkOf j.am
  dlm : ∀ b, b ∈ blkOf j.al → b ∉ blkOf j.am
set_option maxHeartbeats 6400000 in
theorem more_ret (hg : PX w0 w W sl g) {x : Opg} (hx : OpOk w x) {on : Nat} (hon : on < 4) (hc1 : g.ents.length ≤ 1073741820) (hc2 : g.sqs.length ≤ 1073741820) :
    Ret Tryd.prog 84 [ptr W, .agg ⟨opC x⟩, sv (sl on), rv (sl on)] w (fun v w' => v = .bool true ∧ After w0 W g w') := by
  refine enter Tryd.call84 Tryd.func84 rfl rfl rfl rfl ?_
  (repeat first|refine zA ?_|refine zB ?_|refine zC ?_|refine zD ?_|refine zE ?_|refine zg ?_|refine zo rfl rfl (by first|exact trivial|(simp only[AllP];omega)|(simp(discharger:=omega)only[AllP,cA,cB];omega)|(simp only[AllP,cC,cD,cE,cF,cG];omega)) ?_|refine zn ?_|refine zb ?_|refine ze rfl ?_|refine zr ?_|refine zk ?_|refine zT rfl rfl rfl ?_|refine zU rfl rfl rfl ?_|refine zV rfl rfl rfl ?_|refine zf rfl ?_|refine zt rfl ?_)
  refine o_box rfl rfl rfl ?_
  intro bx w1 hbx hu1
  have hB1 : Blk w1 bx (opC x) 93 := hu1.blk
  have k1 : Kp [] w w1 := hu1.kp [] (.inr (by omega))
  have hg1 := hg.kp0 k1
  have hx1 := hx.kp k1
  (repeat first|refine zA ?_|refine zB ?_|refine zC ?_|refine zD ?_|refine zE ?_|refine zg ?_|refine zo rfl rfl (by first|exact trivial|(simp only[AllP];omega)|(simp(discharger:=omega)only[AllP,cA,cB];omega)|(simp only[AllP,cC,cD,cE,cF,cG];omega)) ?_|refine zn ?_|refine zb ?_|refine ze rfl ?_|refine zr ?_|refine zk ?_|refine zT rfl rfl rfl ?_|refine zU rfl rfl rfl ?_|refine zV rfl rfl rfl ?_|refine zf rfl ?_|refine zt rfl ?_)
  refine o_load rfl hB1 rfl rfl rfl rfl rfl ?_
  (repeat first|refine zA ?_|refine zB ?_|refine zC ?_|refine zD ?_|refine zE ?_|refine zg ?_|refine zo rfl rfl (by first|exact trivial|(simp only[AllP];omega)|(simp(discharger:=omega)only[AllP,cA,cB];omega)|(simp only[AllP,cC,cD,cE,cF,cG];omega)) ?_|refine zn ?_|refine zb ?_|refine ze rfl ?_|refine zr ?_|refine zk ?_|refine zT rfl rfl rfl ?_|refine zU rfl rfl rfl ?_|refine zV rfl rfl rfl ?_|refine zf rfl ?_|refine zt rfl ?_)
  refine o_call (four_ret x.wi) rfl rfl rfl ?_
  rintro v w2 ⟨rfl, rfl⟩
  have hwi := (fourN_eq x.wi).2
  generalize fourN x.wi = wi at hwi ⊢
  (repeat first|refine zA ?_|refine zB ?_|refine zC ?_|refine zD ?_|refine zE ?_|refine zg ?_|refine zo rfl rfl (by first|exact trivial|(simp only[AllP];omega)|(simp(discharger:=omega)only[AllP,cA,cB];omega)|(simp only[AllP,cC,cD,cE,cF,cG];omega)) ?_|refine zn ?_|refine zb ?_|refine ze rfl ?_|refine zr ?_|refine zk ?_|refine zT rfl rfl rfl ?_|refine zU rfl rfl rfl ?_|refine zV rfl rfl rfl ?_|refine zf rfl ?_|refine zt rfl ?_)
  refine o_load (v := sv (sl wi)) rfl hg1.pi.hdr (by simpa using hg1.svc hwi) rfl rfl rfl rfl ?_
  (repeat first|refine zA ?_|refine zB ?_|refine zC ?_|refine zD ?_|refine zE ?_|refine zg ?_|refine zo rfl rfl (by first|exact trivial|(simp only[AllP];omega)|(simp(discharger:=omega)only[AllP,cA,cB];omega)|(simp only[AllP,cC,cD,cE,cF,cG];omega)) ?_|refine zn ?_|refine zb ?_|refine ze rfl ?_|refine zr ?_|refine zk ?_|refine zT rfl rfl rfl ?_|refine zU rfl rfl rfl ?_|refine zV rfl rfl rfl ?_|refine zf rfl ?_|refine zt rfl ?_)
  refine o_load (v := rv (sl wi)) rfl hg1.pi.hdr (by simpa using hg1.rvc hwi) rfl rfl rfl rfl ?_
  (repeat first|refine zA ?_|refine zB ?_|refine zC ?_|refine zD ?_|refine zE ?_|refine zg ?_|refine zo rfl rfl (by first|exact trivial|(simp only[AllP];omega)|(simp(discharger:=omega)only[AllP,cA,cB];omega)|(simp only[AllP,cC,cD,cE,cF,cG];omega)) ?_|refine zn ?_|refine zb ?_|refine ze rfl ?_|refine zr ?_|refine zk ?_|refine zT rfl rfl rfl ?_|refine zU rfl rfl rfl ?_|refine zV rfl rfl rfl ?_|refine zf rfl ?_|refine zt rfl ?_)
  refine o_load rfl hB1 rfl rfl rfl rfl rfl ?_
  (repeat first|refine zA ?_|refine zB ?_|refine zC ?_|refine zD ?_|refine zE ?_|refine zg ?_|refine zo rfl rfl (by first|exact trivial|(simp only[AllP];omega)|(simp(discharger:=omega)only[AllP,cA,cB];omega)|(simp only[AllP,cC,cD,cE,cF,cG];omega)) ?_|refine zn ?_|refine zb ?_|refine ze rfl ?_|refine zr ?_|refine zk ?_|refine zT rfl rfl rfl ?_|refine zU rfl rfl rfl ?_|refine zV rfl rfl rfl ?_|refine zf rfl ?_|refine zt rfl ?_)
  refine r_if (p := x.d = 5) rfl (fun hd5 => ?_) (fun hd5 => ?_)
  · (repeat first|refine zA ?_|refine zB ?_|refine zC ?_|refine zD ?_|refine zE ?_|refine zg ?_|refine zo rfl rfl (by first|exact trivial|(simp only[AllP];omega)|(simp(discharger:=omega)only[AllP,cA,cB];omega)|(simp only[AllP,cC,cD,cE,cF,cG];omega)) ?_|refine zn ?_|refine zb ?_|refine ze rfl ?_|refine zr ?_|refine zk ?_|refine zT rfl rfl rfl ?_|refine zU rfl rfl rfl ?_|refine zV rfl rfl rfl ?_|refine zf rfl ?_|refine zt rfl ?_)
    have hT1 := hg1.pi.tab
    have hso := hg1.pi.slots on hon
    have hel := el_len hso
    have hwl := wo_len hso
    refine o_call (ListO hT1 hso) rfl rfl rfl ?_
    rintro v w3 ⟨a1, c1, rfl, n1⟩
    have g3 := hg1.kp0 n1.kp
    (repeat first|refine zA ?_|refine zB ?_|refine zC ?_|refine zD ?_|refine zE ?_|refine zg ?_|refine zo rfl rfl (by first|exact trivial|(simp only[AllP];omega)|(simp(discharger:=omega)only[AllP,cA,cB];omega)|(simp only[AllP,cC,cD,cE,cF,cG];omega)) ?_|refine zn ?_|refine zb ?_|refine ze rfl ?_|refine zr ?_|refine zk ?_|refine zT rfl rfl rfl ?_|refine zU rfl rfl rfl ?_|refine zV rfl rfl rfl ?_|refine zf rfl ?_|refine zt rfl ?_)
    refine o_call (ListO g3.pi.tab (g3.pi.slots on hon)) rfl rfl rfl ?_
    rintro v w4 ⟨a2, c2, rfl, n2⟩
    have g4 := g3.kp0 n2.kp
    (repeat first|refine zA ?_|refine zB ?_|refine zC ?_|refine zD ?_|refine zE ?_|refine zg ?_|refine zo rfl rfl (by first|exact trivial|(simp only[AllP];omega)|(simp(discharger:=omega)only[AllP,cA,cB];omega)|(simp only[AllP,cC,cD,cE,cF,cG];omega)) ?_|refine zn ?_|refine zb ?_|refine ze rfl ?_|refine zr ?_|refine zk ?_|refine zT rfl rfl rfl ?_|refine zU rfl rfl rfl ?_|refine zV rfl rfl rfl ?_|refine zf rfl ?_|refine zt rfl ?_)
    refine o_call (WordsO (g4.pi.slots on hon)) rfl rfl rfl ?_
    rintro v w5 ⟨a3, c3, rfl, n3⟩
    have g5 := g4.kp0 n3.kp
    (repeat first|refine zA ?_|refine zB ?_|refine zC ?_|refine zD ?_|refine zE ?_|refine zg ?_|refine zo rfl rfl (by first|exact trivial|(simp only[AllP];omega)|(simp(discharger:=omega)only[AllP,cA,cB];omega)|(simp only[AllP,cC,cD,cE,cF,cG];omega)) ?_|refine zn ?_|refine zb ?_|refine ze rfl ?_|refine zr ?_|refine zk ?_|refine zT rfl rfl rfl ?_|refine zU rfl rfl rfl ?_|refine zV rfl rfl rfl ?_|refine zf rfl ?_|refine zt rfl ?_)
    refine o_call (WordsO (g5.pi.slots on hon)) rfl rfl rfl ?_
    rintro v w6 ⟨a4, c4, rfl, n4⟩
    have g6 := g5.kp0 n4.kp
    (repeat first|refine zA ?_|refine zB ?_|refine zC ?_|refine zD ?_|refine zE ?_|refine zg ?_|refine zo rfl rfl (by first|exact trivial|(simp only[AllP];omega)|(simp(discharger:=omega)only[AllP,cA,cB];omega)|(simp only[AllP,cC,cD,cE,cF,cG];omega)) ?_|refine zn ?_|refine zb ?_|refine ze rfl ?_|refine zr ?_|refine zk ?_|refine zT rfl rfl rfl ?_|refine zU rfl rfl rfl ?_|refine zV rfl rfl rfl ?_|refine zf rfl ?_|refine zt rfl ?_)
    refine o_call (refListO (g6.pi.slots on hon)) rfl rfl rfl ?_
    rintro v w7 ⟨a5, c5, rfl, n5⟩
    have g7 := g6.kp0 n5.kp
    have k37 := ((n2.kp.trans n3.kp).trans n4.kp).trans n5.kp
    have q1 := n1.read.kp k37 (by simp)
    have q2 := n5.read
    rw [map_encI] at q1 q2
    refine o_call (same_yes q1 q2 (by simp) (by simp) (by omega)) rfl rfl rfl ?_
    rintro v w8 ⟨rfl, s8⟩
    have g8 := g7.sm s8
    have k48 := ((n3.kp.trans n4.kp).trans n5.kp).trans (s8.kp [])
    have k38 := k37.trans (s8.kp [])
    (repeat first|refine zA ?_|refine zB ?_|refine zC ?_|refine zD ?_|refine zE ?_|refine zg ?_|refine zo rfl rfl (by first|exact trivial|(simp only[AllP];omega)|(simp(discharger:=omega)only[AllP,cA,cB];omega)|(simp only[AllP,cC,cD,cE,cF,cG];omega)) ?_|refine zn ?_|refine zb ?_|refine ze rfl ?_|refine zr ?_|refine zk ?_|refine zT rfl rfl rfl ?_|refine zU rfl rfl rfl ?_|refine zV rfl rfl rfl ?_|refine zf rfl ?_|refine zt rfl ?_)
    have q3 := n2.read.kp k48 (by simp)
    have q4 := n1.read.kp k38 (by simp)
    rw [map_encI] at q3 q4
    refine o_call (same_yes q3 q4 (by simp) (by simp) (by omega)) rfl rfl rfl ?_
    rintro v w9 ⟨rfl, s9⟩
    have g9 := g8.sm s9
    (repeat first|refine zA ?_|refine zB ?_|refine zC ?_|refine zD ?_|refine zE ?_|refine zg ?_|refine zo rfl rfl (by first|exact trivial|(simp only[AllP];omega)|(simp(discharger:=omega)only[AllP,cA,cB];omega)|(simp only[AllP,cC,cD,cE,cF,cG];omega)) ?_|refine zn ?_|refine zb ?_|refine ze rfl ?_|refine zr ?_|refine zk ?_|refine zT rfl rfl rfl ?_|refine zU rfl rfl rfl ?_|refine zV rfl rfl rfl ?_|refine zf rfl ?_|refine zt rfl ?_)
    refine o_call (refWordsO (g9.pi.slots on hon)) rfl rfl rfl ?_
    rintro v w10 ⟨a6, c6, rfl, n6⟩
    have g10 := g9.kp0 n6.kp
    have k510 := ((((n4.kp.trans n5.kp).trans (s8.kp [])).trans (s9.kp [])).trans n6.kp)
    refine o_call (sameWords_eq (n3.read.kp k510 (by simp)) n6.read rfl rfl (by omega)) rfl rfl rfl ?_
    rintro v w11 ⟨rfl, s11⟩
    have g11 := g10.sm s11
    have k611 := ((((n5.kp.trans (s8.kp [])).trans (s9.kp [])).trans n6.kp).trans (s11.kp []))
    (repeat first|refine zA ?_|refine zB ?_|refine zC ?_|refine zD ?_|refine zE ?_|refine zg ?_|refine zo rfl rfl (by first|exact trivial|(simp only[AllP];omega)|(simp(discharger:=omega)only[AllP,cA,cB];omega)|(simp only[AllP,cC,cD,cE,cF,cG];omega)) ?_|refine zn ?_|refine zb ?_|refine ze rfl ?_|refine zr ?_|refine zk ?_|refine zT rfl rfl rfl ?_|refine zU rfl rfl rfl ?_|refine zV rfl rfl rfl ?_|refine zf rfl ?_|refine zt rfl ?_)
    refine o_call (sameWords_eq (n4.read.kp k611 (by simp)) (n3.read.kp (k510.trans (s11.kp [])) (by simp)) rfl rfl (by omega)) rfl rfl rfl ?_
    rintro v w12 ⟨rfl, s12⟩
    have g12 := g11.sm s12
    have k612 := k611.trans (s12.kp [])
    have k512 := n4.kp.trans k612
    have k412 := n3.kp.trans k512
    have k312 := n2.kp.trans k412
    have z0 := hg1.pi.kp.size
    have z1 := n1.kp.size
    have z2 := n2.kp.size
    have z3 := n3.kp.size
    have p1 : Pend w0 W sl g w12 a1 := fun b hb => ⟨by have := n1.own.lt b hb; have := k312.size; omega, by have := n1.new b hb; omega, hg1.pi.away (n1.new b hb)⟩
    have p2 : Pend w0 W sl g w12 a2 := fun b hb => ⟨by have := n2.own.lt b hb; have := k412.size; omega, by have := n2.new b hb; omega, g3.pi.away (n2.new b hb)⟩
    have p3 : Pend w0 W sl g w12 a3 := fun b hb => ⟨by have := n3.own.lt b hb; have := k512.size; omega, by have := n3.new b hb; omega, g4.pi.away (n3.new b hb)⟩
    have p4 : Pend w0 W sl g w12 a4 := fun b hb => ⟨by have := n4.own.lt b hb; have := k612.size; omega, by have := n4.new b hb; omega, g5.pi.away (n4.new b hb)⟩
    have o1 := n1.own.kp k312 (by simp)
    have o2 := n2.own.kp k412 (by simp)
    have o3 := n3.own.kp k512 (by simp)
    have o4 := n4.own.kp k612 (by simp)
    have d12 : ∀ b, b ∈ blkOf a2 → b ∉ blkOf a1 := fun b h2 h1 => by have := n2.new b h2; have := n1.own.lt b h1; omega
    have d13 : ∀ b, b ∈ blkOf a3 → b ∉ blkOf a1 := fun b h2 h1 => by have := n3.new b h2; have := n1.own.lt b h1; omega
    have d14 : ∀ b, b ∈ blkOf a4 → b ∉ blkOf a1 := fun b h2 h1 => by have := n4.new b h2; have := n1.own.lt b h1; omega
    have d23 : ∀ b, b ∈ blkOf a3 → b ∉ blkOf a2 := fun b h2 h1 => by have := n3.new b h2; have := n2.own.lt b h1; omega
    have d24 : ∀ b, b ∈ blkOf a4 → b ∉ blkOf a2 := fun b h2 h1 => by have := n4.new b h2; have := n2.own.lt b h1; omega
    have d34 : ∀ b, b ∈ blkOf a4 → b ∉ blkOf a3 := fun b h2 h1 => by have := n4.new b h2; have := n3.own.lt b h1; omega
    clear n1 n2 n3 n4 n5 n6 k37 k38 k48 k510 k611 k612 k512 k412 k312 q1 q2 q3 q4 s8 s9 s11 s12 g3 g4 g5 g6 g7 g8 g9 g10 g11
    (repeat first|refine zA ?_|refine zB ?_|refine zC ?_|refine zD ?_|refine zE ?_|refine zg ?_|refine zo rfl rfl (by first|exact trivial|(simp only[AllP];omega)|(simp(discharger:=omega)only[AllP,cA,cB];omega)|(simp only[AllP,cC,cD,cE,cF,cG];omega)) ?_|refine zn ?_|refine zb ?_|refine ze rfl ?_|refine zr ?_|refine zk ?_|refine zT rfl rfl rfl ?_|refine zU rfl rfl rfl ?_|refine zV rfl rfl rfl ?_|refine zf rfl ?_|refine zt rfl ?_)
    refine o_call (numbers_ret g12 o1 p1.away (by omega) (by omega)) rfl rfl rfl ?_
    rintro v w13 ⟨rfl, g', hg', he1, hs1, hf1⟩
    (repeat first|refine zA ?_|refine zB ?_|refine zC ?_|refine zD ?_|refine zE ?_|refine zg ?_|refine zo rfl rfl (by first|exact trivial|(simp only[AllP];omega)|(simp(discharger:=omega)only[AllP,cA,cB];omega)|(simp only[AllP,cC,cD,cE,cF,cG];omega)) ?_|refine zn ?_|refine zb ?_|refine ze rfl ?_|refine zr ?_|refine zk ?_|refine zT rfl rfl rfl ?_|refine zU rfl rfl rfl ?_|refine zV rfl rfl rfl ?_|refine zf rfl ?_|refine zt rfl ?_)
    have p2' := p2.next hf1 d12
    have p3' := p3.next hf1 d13
    have p4' := p4.next hf1 d14
    refine o_call (numbers_ret hg' (p2.own hf1 d12 o2) p2'.away (by omega) (by omega)) rfl rfl rfl ?_
    rintro v w14 ⟨rfl, g'', hg'', he2, hs2, hf2⟩
    have o3' := p3.own hf1 d13 o3
    have o4' := p4.own hf1 d14 o4
    have p3y := p3'.next hf2 d23
    have p4y := p4'.next hf2 d24
    (repeat first|refine zA ?_|refine zB ?_|refine zC ?_|refine zD ?_|refine zE ?_|refine zg ?_|refine zo rfl rfl (by first|exact trivial|(simp only[AllP];omega)|(simp(discharger:=omega)only[AllP,cA,cB];omega)|(simp only[AllP,cC,cD,cE,cF,cG];omega)) ?_|refine zn ?_|refine zb ?_|refine ze rfl ?_|refine zr ?_|refine zk ?_|refine zT rfl rfl rfl ?_|refine zU rfl rfl rfl ?_|refine zV rfl rfl rfl ?_|refine zf rfl ?_|refine zt rfl ?_)
    refine o_call (bits_ret hg'' (p3'.own hf2 d23 o3') p3y.away (by omega) (by omega)) rfl rfl rfl ?_
    rintro v w15 ⟨rfl, g3, hg3, he3, hs3, hf3⟩
    have o4y := p4'.own hf2 d24 o4'
    have p4z := p4y.next hf3 d34
    (repeat first|refine zA ?_|refine zB ?_|refine zC ?_|refine zD ?_|refine zE ?_|refine zg ?_|refine zo rfl rfl (by first|exact trivial|(simp only[AllP];omega)|(simp(discharger:=omega)only[AllP,cA,cB];omega)|(simp only[AllP,cC,cD,cE,cF,cG];omega)) ?_|refine zn ?_|refine zb ?_|refine ze rfl ?_|refine zr ?_|refine zk ?_|refine zT rfl rfl rfl ?_|refine zU rfl rfl rfl ?_|refine zV rfl rfl rfl ?_|refine zf rfl ?_|refine zt rfl ?_)
    refine o_call (bits_ret hg3 (p4y.own hf3 d34 o4y) p4z.away (by omega) (by omega)) rfl rfl rfl ?_
    rintro v w16 ⟨rfl, g4, hg4, he4, hs4, hf4⟩
    (repeat first|refine zA ?_|refine zB ?_|refine zC ?_|refine zD ?_|refine zE ?_|refine zg ?_|refine zo rfl rfl (by first|exact trivial|(simp only[AllP];omega)|(simp(discharger:=omega)only[AllP,cA,cB];omega)|(simp only[AllP,cC,cD,cE,cF,cG];omega)) ?_|refine zn ?_|refine zb ?_|refine ze rfl ?_|refine zr ?_|refine zk ?_|refine zT rfl rfl rfl ?_|refine zU rfl rfl rfl ?_|refine zV rfl rfl rfl ?_|refine zf rfl ?_|refine zt rfl ?_)
    refine o_call (ListO hg4.pi.tab (hg4.pi.slots on hon)) rfl rfl rfl ?_
    rintro v w17 ⟨a7, c7, rfl, n7⟩
    have g17 := hg4.kp0 n7.kp
    (repeat first|refine zA ?_|refine zB ?_|refine zC ?_|refine zD ?_|refine zE ?_|refine zg ?_|refine zo rfl rfl (by first|exact trivial|(simp only[AllP];omega)|(simp(discharger:=omega)only[AllP,cA,cB];omega)|(simp only[AllP,cC,cD,cE,cF,cG];omega)) ?_|refine zn ?_|refine zb ?_|refine ze rfl ?_|refine zr ?_|refine zk ?_|refine zT rfl rfl rfl ?_|refine zU rfl rfl rfl ?_|refine zV rfl rfl rfl ?_|refine zf rfl ?_|refine zt rfl ?_)
    refine o_call (refListO (g17.pi.slots on hon)) rfl rfl rfl ?_
    rintro v w18 ⟨a8, c8, rfl, n8⟩
    have g18 := g17.kp0 n8.kp
    have q1 := n7.read.kp n8.kp (by simp)
    have q2 := n8.read
    rw [map_encI] at q1 q2
    refine o_call (same_yes q1 q2 (by simp) (by simp) (by omega)) rfl rfl rfl ?_
    rintro v w19 ⟨rfl, s19⟩
    have g19 := g18.sm s19
    (repeat first|refine zA ?_|refine zB ?_|refine zC ?_|refine zD ?_|refine zE ?_|refine zg ?_|refine zo rfl rfl (by first|exact trivial|(simp only[AllP];omega)|(simp(discharger:=omega)only[AllP,cA,cB];omega)|(simp only[AllP,cC,cD,cE,cF,cG];omega)) ?_|refine zn ?_|refine zb ?_|refine ze rfl ?_|refine zr ?_|refine zk ?_|refine zT rfl rfl rfl ?_|refine zU rfl rfl rfl ?_|refine zV rfl rfl rfl ?_|refine zf rfl ?_|refine zt rfl ?_)
    exact ⟨_, rfl, rfl, sl, g4, g19, by omega, by rw [hs4, hs3, hs2, hs1]; omega⟩
  (repeat first|refine zA ?_|refine zB ?_|refine zC ?_|refine zD ?_|refine zE ?_|refine zg ?_|refine zo rfl rfl (by first|exact trivial|(simp only[AllP];omega)|(simp(discharger:=omega)only[AllP,cA,cB];omega)|(simp only[AllP,cC,cD,cE,cF,cG];omega)) ?_|refine zn ?_|refine zb ?_|refine ze rfl ?_|refine zr ?_|refine zk ?_|refine zT rfl rfl rfl ?_|refine zU rfl rfl rfl ?_|refine zV rfl rfl rfl ?_|refine zf rfl ?_|refine zt rfl ?_)
  refine r_if (p := x.d = 6) rfl (fun hd6 => ?_) (fun hd6 => ?_)
  · (repeat first|refine zA ?_|refine zB ?_|refine zC ?_|refine zD ?_|refine zE ?_|refine zg ?_|refine zo rfl rfl (by first|exact trivial|(simp only[AllP];omega)|(simp(discharger:=omega)only[AllP,cA,cB];omega)|(simp only[AllP,cC,cD,cE,cF,cG];omega)) ?_|refine zn ?_|refine zb ?_|refine ze rfl ?_|refine zr ?_|refine zk ?_|refine zT rfl rfl rfl ?_|refine zU rfl rfl rfl ?_|refine zV rfl rfl rfl ?_|refine zf rfl ?_|refine zt rfl ?_)
    have ho := hg1.pi.slots on hon
    have hel := el_len ho
    refine o_call (AllO hg1.pi.tab ho) rfl rfl rfl ?_
    rintro v w3 ⟨Fp, hseq, k3, hnew3⟩
    obtain ⟨f, lb, rfl, hit⟩ := hseq.is
    have hseq : SeqIs w3 (.func (.func f) #[] ⟨lb⟩) (0 :: Fp) (el (sl on)) := ⟨f, lb, rfl, hit⟩
    have g3 := hg1.kp0 k3
    have hl5 := (hg1.rows.len).2.2.2.2.2.1
    have hl6 := (hg1.rows.len).2.2.2.2.2.2
    have hwn := hg1.pc.n
    (repeat first|refine zA ?_|refine zB ?_|refine zC ?_|refine zD ?_|refine zE ?_|refine zg ?_|refine zo rfl rfl (by first|exact trivial|(simp only[AllP];omega)|(simp(discharger:=omega)only[AllP,cA,cB];omega)|(simp only[AllP,cC,cD,cE,cF,cG];omega)) ?_|refine zn ?_|refine zb ?_|refine ze rfl ?_|refine zr ?_|refine zk ?_|refine zT rfl rfl rfl ?_|refine zU rfl rfl rfl ?_|refine zV rfl rfl rfl ?_|refine zf rfl ?_|refine zt rfl ?_)
    refine o_load (v := .slice (g.ad 5) (g.row 5).length (g.cp 5)) rfl g3.pi.hdr rfl rfl rfl rfl rfl ?_
    (repeat first|refine zA ?_|refine zB ?_|refine zC ?_|refine zD ?_|refine zE ?_|refine zg ?_|refine zo rfl rfl (by first|exact trivial|(simp only[AllP];omega)|(simp(discharger:=omega)only[AllP,cA,cB];omega)|(simp only[AllP,cC,cD,cE,cF,cG];omega)) ?_|refine zn ?_|refine zb ?_|refine ze rfl ?_|refine zr ?_|refine zk ?_|refine zT rfl rfl rfl ?_|refine zU rfl rfl rfl ?_|refine zV rfl rfl rfl ?_|refine zf rfl ?_|refine zt rfl ?_)
    refine o_buildSlice [.func (.func f) #[] ⟨lb⟩] rfl (by simp [Value.oneCell']) rfl (by decide) (by decide) rfl rfl rfl rfl rfl ?_
    intro bx5 wa5 hbx5 hua5
    have ka5 := hua5.kp [] (.inr (by omega))
    have hO5 := (g3.pi.own 5 (by omega)).kp ka5 (by simp)
    refine o_append1 (T := 35) rfl rfl hO5 hua5.blk rfl rfl rfl rfl (by simp only [maxLen]; omega) (by omega) rfl rfl ?_
    intro ad5' cap5' wb5 hb5 kb5 hnew5
    have hW5 := kb5.blk (fun hb => (g3.pi.W_away (i := 5 + 4) (by omega) (by rw [dd_ad (by omega)]; exact hb)) rfl) (g3.pi.kp0 ka5).hdr
    (repeat first|refine zA ?_|refine zB ?_|refine zC ?_|refine zD ?_|refine zE ?_|refine zg ?_|refine zo rfl rfl (by first|exact trivial|(simp only[AllP];omega)|(simp(discharger:=omega)only[AllP,cA,cB];omega)|(simp only[AllP,cC,cD,cE,cF,cG];omega)) ?_|refine zn ?_|refine zb ?_|refine ze rfl ?_|refine zr ?_|refine zk ?_|refine zT rfl rfl rfl ?_|refine zU rfl rfl rfl ?_|refine zV rfl rfl rfl ?_|refine zf rfl ?_|refine zt rfl ?_)
    refine o_store rfl hW5 (by rw [rowL_len]; decide) rfl rfl rfl rfl rfl rfl ?_
    intro wc5 hs5
    obtain ⟨A5, C5, R5, hP5, hk5, hA5, hR5, hR5', hAx⟩ : ∃ A C R, PI w0 wc5 W sl A C R g.Cst ∧ Kp (W :: blkOf (g.ad 5)) w3 wc5 ∧ A 6 = g.ad 6 ∧ (∀ j, j ≠ 5 → R j = g.row j) ∧ R 5 = g.row 5 ++ [.func (.func f) #[] ⟨lb⟩] ∧ ∀ k b, b ∈ blkOf (A k) → b ∈ blkOf (g.ad k) ∨ w3.heap.size ≤ b := by
      obtain ⟨h1, h2⟩ := g3.pi.push (k := 5) (by omega) ka5 hb5 kb5 hnew5 hs5
      refine ⟨_, _, _, h1, h2, up_ne _ _ (by omega), fun j hj => up_ne _ _ hj, up_same _ _ _, fun k b hb => ?_⟩
      by_cases hk : k = 5
      · subst hk
        rw [up_same] at hb
        rcases hnew5 b hb with h3 | h3
        · exact .inl h3
        · have := ka5.size; exact .inr (by omega)
      · rw [up_ne _ _ hk] at hb; exact .inl hb
    have l6 : (R5 6).length = g.sqs.length := by rw [hR5 6 (by omega), hl6, hwn]
    (repeat first|refine zA ?_|refine zB ?_|refine zC ?_|refine zD ?_|refine zE ?_|refine zg ?_|refine zo rfl rfl (by first|exact trivial|(simp only[AllP];omega)|(simp(discharger:=omega)only[AllP,cA,cB];omega)|(simp only[AllP,cC,cD,cE,cF,cG];omega)) ?_|refine zn ?_|refine zb ?_|refine ze rfl ?_|refine zr ?_|refine zk ?_|refine zT rfl rfl rfl ?_|refine zU rfl rfl rfl ?_|refine zV rfl rfl rfl ?_|refine zf rfl ?_|refine zt rfl ?_)
    refine r_seq ?_
    refine r_mix (fun w' => Blk w' W (rowL 15 (wf sl A5 C5 R5)) 90) [(0, false), (1, false), (2, false), (3, false), (4, false), (5, false), (6, false), (7, true), (8, true), (9, true), (10, false), (11, false), (12, false), (13, true)] follows_mixed (by kernel_rfl) (by kernel_rfl) (by kernel_rfl) ((Sm.drew wc5).blk hP5.hdr) ?_
    have hkd := (Sm.drew wc5).kp []
    generalize ({ wc5 with drawn := wc5.drawn + 1 } : World) = w6 at hkd ⊢
    have hP6 := hP5.kp0 hkd
    (repeat first|refine xo rfl rfl (by first|exact trivial|(simp only[AllP];omega)|(simp(discharger:=omega)only[AllP,cA,cB];omega)|(simp only[AllP,cC,cD,cE,cF,cG];omega)) ?_|refine xn ?_|refine x_know rfl _ _ (some true) rfl rfl rfl ?_|refine x_know rfl _ _ (some false) rfl rfl rfl ?_|refine x_know rfl _ _ none rfl rfl rfl ?_)
    refine x_load (v := .slice (A5 6) (R5 6).length (C5 6)) rfl rfl (fun w' h' => h'.cell rfl) rfl rfl rfl rfl ?_
    (repeat first|refine xo rfl rfl (by first|exact trivial|(simp only[AllP];omega)|(simp(discharger:=omega)only[AllP,cA,cB];omega)|(simp only[AllP,cC,cD,cE,cF,cG];omega)) ?_|refine xn ?_|refine x_know rfl _ _ (some true) rfl rfl rfl ?_|refine x_know rfl _ _ (some false) rfl rfl rfl ?_|refine x_know rfl _ _ none rfl rfl rfl ?_)
    refine x_act rfl ?_
    refine o_call (refListO (hP6.slots on hon)) rfl rfl rfl ?_
    rintro v w7 ⟨a7, c7, rfl, n7⟩
    have hP7 := hP6.kp0 n7.kp
    refine o_nil ⟨.inr hP7.hdr, ?_⟩
    (repeat first|refine xo rfl rfl (by first|exact trivial|(simp only[AllP];omega)|(simp(discharger:=omega)only[AllP,cA,cB];omega)|(simp only[AllP,cC,cD,cE,cF,cG];omega)) ?_|refine xn ?_|refine x_know rfl _ _ (some true) rfl rfl rfl ?_|refine x_know rfl _ _ (some false) rfl rfl rfl ?_|refine x_know rfl _ _ none rfl rfl rfl ?_)
    refine x_act rfl ?_
    refine o_buildSlice [.slice a7 (el (sl on)).length c7] rfl (by simp [Value.oneCell']) rfl (by decide) (by decide) rfl rfl rfl rfl rfl ?_
    intro bx6 wa6 hbx6 hua6
    have ka6 := hua6.kp [] (.inr (by omega))
    have hP8 := hP7.kp0 ka6
    refine o_nil ⟨.inr hP8.hdr, ?_⟩
    (repeat first|refine xo rfl rfl (by first|exact trivial|(simp only[AllP];omega)|(simp(discharger:=omega)only[AllP,cA,cB];omega)|(simp only[AllP,cC,cD,cE,cF,cG];omega)) ?_|refine xn ?_|refine x_know rfl _ _ (some true) rfl rfl rfl ?_|refine x_know rfl _ _ (some false) rfl rfl rfl ?_|refine x_know rfl _ _ none rfl rfl rfl ?_)
    refine x_act rfl ?_
    refine o_append1 (T := 22) rfl rfl (hP8.own 6 (by omega)) hua6.blk rfl rfl rfl rfl (by simp only [maxLen]; omega) (by omega) rfl rfl ?_
    intro ad6' cap6' wb6 hb6 kb6 hnew6
    have hW6 := kb6.blk (fun hb => (hP8.W_away (i := 6 + 4) (by omega) (by rw [dd_ad (by omega)]; exact hb)) rfl) hP8.hdr
    refine o_nil ⟨.inr hW6, ?_⟩
    (repeat first|refine xo rfl rfl (by first|exact trivial|(simp only[AllP];omega)|(simp(discharger:=omega)only[AllP,cA,cB];omega)|(simp only[AllP,cC,cD,cE,cF,cG];omega)) ?_|refine xn ?_|refine x_know rfl _ _ (some true) rfl rfl rfl ?_|refine x_know rfl _ _ (some false) rfl rfl rfl ?_|refine x_know rfl _ _ none rfl rfl rfl ?_)
    refine x_act rfl ?_
    refine o_store rfl hW6 (by rw [rowL_len]; decide) rfl rfl rfl rfl rfl rfl ?_
    intro wc6 hs6
    refine o_nil ⟨.inl (by kernel_rfl), ?_⟩
    (repeat first|refine xo rfl rfl (by first|exact trivial|(simp only[AllP];omega)|(simp(discharger:=omega)only[AllP,cA,cB];omega)|(simp only[AllP,cC,cD,cE,cF,cG];omega)) ?_|refine xn ?_|refine x_know rfl _ _ (some true) rfl rfl rfl ?_|refine x_know rfl _ _ (some false) rfl rfl rfl ?_|refine x_know rfl _ _ none rfl rfl rfl ?_)
    obtain ⟨hP9, hk9⟩ := hP7.push (k := 6) (by omega) ka6 hb6 kb6 hnew6 hs6
    have hTin := hg1.pi.tabIn
    have z3 := k3.size
    have z5 := hk5.size
    have z6 := hkd.size
    have z7 := n7.kp.size
    have z9 := hk9.size
    have z0 := hg1.pi.kp.size
    have k57 := hkd.trans n7.kp
    have hk59 : Kp (W :: blkOf (A5 6)) wc5 wc6 := (k57.mono (by simp)).trans hk9
    have awC : ∀ b, b ∈ g.Cst → b ∉ W :: blkOf (g.ad 5) := g3.pi.cst (by omega)
    have awC6 : ∀ b, b ∈ g.Cst → b ∉ W :: blkOf (A5 6) := hP5.cst (by omega)
    have hWlt : W < w2.heap.size := hg1.pi.dj.lt 11 W (by rw [dd_W]; simp)
    have fa : ∀ b, b ∈ Fp → b ∉ W :: blkOf (g.ad 5) := fun b hb hb2 => by
      have h1 := hnew3 b hb
      rcases List.mem_cons.1 hb2 with e | hb2
      · omega
      · have := hg1.pi.dj.lt (5 + 4) b (by rw [dd_ad (by omega)]; exact hb2); omega
    have fa6 : ∀ b, b ∈ Fp → b ∉ W :: blkOf (A5 6) := fun b hb hb2 => by
      have h1 := hnew3 b hb
      rw [hA5] at hb2
      rcases List.mem_cons.1 hb2 with e | hb2
      · omega
      · have := hg1.pi.dj.lt (6 + 4) b (by rw [dd_ad (by omega)]; exact hb2); omega
    have hA9 : ∀ k b, b ∈ blkOf (up A5 6 ad6' k) → b ∈ blkOf (A5 k) ∨ w7.heap.size ≤ b := fun k b hb => by
      by_cases hk : k = 6
      · subst hk
        rw [up_same] at hb
        rcases hnew6 b hb with h3 | h3
        · exact .inl h3
        · have := ka6.size; exact .inr (by omega)
      · rw [up_ne _ _ hk] at hb; exact .inl hb
    have hF : ∀ b, b ∈ blkOf a7 ++ Fp → b < wc6.heap.size ∧ ∀ i, b ∉ DD sl W (up A5 6 ad6') g.Cst i := fun b hb => by
      rcases List.mem_append.1 hb with hb | hb
      · have h1 := n7.own.lt b hb
        exact ⟨by omega, book_away (w := w7) (F := []) (hP6.away (n7.new b hb)) (fun k _ hb => hA9 k b hb) (by simp) h1⟩
      · have h1 := hseq.lt b (List.mem_cons_of_mem _ hb)
        refine ⟨by omega, book_away (w := w3) (F := []) (book_away (w := w3) (F := []) (hg1.pi.away (hnew3 b hb)) (fun k _ hb => hAx k b hb) (by simp) h1) (fun k _ hb => ?_) (by simp) h1⟩
        rcases hA9 k b hb with h3 | h3
        · exact .inl h3
        · exact .inr (by omega)
    have hseq5 := hseq.kp hk5 (fun b hb => by
      rcases List.mem_cons.1 hb with rfl | hb
      · exact awC _ hTin
      · exact fa b hb)
    have hseq9 := hseq5.kp hk59 (fun b hb => by
      rcases List.mem_cons.1 hb with rfl | hb
      · exact awC6 _ hTin
      · exact fa6 b hb)
    have hr9 : ReadS wc6 a7 ((el (sl on)).map encI) := n7.read.kp hk9 fun b hb hb2 => by
      have h1 := n7.new b hb
      rw [hA5] at hb2
      rcases List.mem_cons.1 hb2 with e | hb2
      · omega
      · have := hg1.pi.dj.lt (6 + 4) b (by rw [dd_ad (by omega)]; exact hb2); omega
    have hpc := (g3.pc.kp hk5 awC (fun b hb => hb)).kp hk59 awC6 (fun b hb => List.mem_append_right (blkOf a7 ++ Fp) hb)
    have hcap7 := n7.own.le_cap
    have hX : PX w0 wc6 W sl ⟨up A5 6 ad6', up C5 6 cap6', up R5 6 (R5 6 ++ [.slice a7 (el (sl on)).length c7]), (blkOf a7 ++ Fp) ++ g.Cst, g.ents, g.sqs ++ [(.func (.func f) #[] ⟨lb⟩, el (sl on))], g.wts ++ [⟨a7, (el (sl on)).length, c7⟩], g.wl⟩ := by
      refine ⟨hP9.keep hF, ⟨hpc.ent, fun s hs => ?_, by simp [hwn], fun i t s ht hs => ?_⟩, ?_⟩
      · rcases List.mem_append.1 hs with hs | hs
        · exact hpc.sq s hs
        · simp at hs
          rw [hs]
          refine ⟨rfl, by dsimp only; omega, _, hseq9, fun b hb => ?_⟩
          rcases List.mem_cons.1 hb with rfl | hb
          · exact List.mem_append_right _ hTin
          · exact List.mem_append_left _ (List.mem_append_right _ hb)
      · dsimp only at ht hs
        by_cases hi : i < g.sqs.length
        · rw [List.getElem?_append_left (by omega)] at ht
          rw [List.getElem?_append_left hi] at hs
          exact hpc.wt i t s ht hs
        · rw [List.getElem?_append_right (by omega)] at ht hs
          have h1 := (List.getElem?_eq_some_iff.1 hs).1
          simp at h1
          have h2 : i = g.sqs.length := by omega
          subst h2
          rw [hwn] at ht
          simp at ht hs
          subst ht hs
          exact ⟨rfl, hr9, hcap7, fun b hb => List.mem_append_left _ (List.mem_append_left _ hb)⟩
      · have hr := hg1.rows
        constructor
        · dsimp only; rw [up_ne _ _ (by omega), hR5 0 (by omega)]; exact hr.r0
        · dsimp only; rw [up_ne _ _ (by omega), hR5 1 (by omega)]; exact hr.r1
        · dsimp only; rw [up_ne _ _ (by omega), hR5 2 (by omega)]; exact hr.r2
        · dsimp only; rw [up_ne _ _ (by omega), hR5 3 (by omega)]; exact hr.r3
        · dsimp only; rw [up_ne _ _ (by omega), hR5 4 (by omega)]; exact hr.r4
        · dsimp only; rw [up_ne _ _ (by omega), hR5', hr.r5]; simp
        · dsimp only; rw [up_same, hR5 6 (by omega), hr.r6]; simp [Sc.v]
    (repeat first|refine zA ?_|refine zB ?_|refine zC ?_|refine zD ?_|refine zE ?_|refine zg ?_|refine zo rfl rfl (by first|exact trivial|(simp only[AllP];omega)|(simp(discharger:=omega)only[AllP,cA,cB];omega)|(simp only[AllP,cC,cD,cE,cF,cG];omega)) ?_|refine zn ?_|refine zb ?_|refine ze rfl ?_|refine zr ?_|refine zk ?_|refine zT rfl rfl rfl ?_|refine zU rfl rfl rfl ?_|refine zV rfl rfl rfl ?_|refine zf rfl ?_|refine zt rfl ?_)
    refine o_call (gone_ret hseq9 (by omega) (most := -1) (by omega)) rfl rfl rfl ?_
    rintro v w10 ⟨a10, c10, rfl, n10⟩
    have eg1 : goneL (el (sl on)) (-1) = el (sl on) := rfl
    rw [eg1] at n10 ⊢
    have X10 := hX.kp0 n10.kp
    (repeat first|refine zA ?_|refine zB ?_|refine zC ?_|refine zD ?_|refine zE ?_|refine zg ?_|refine zo rfl rfl (by first|exact trivial|(simp only[AllP];omega)|(simp(discharger:=omega)only[AllP,cA,cB];omega)|(simp only[AllP,cC,cD,cE,cF,cG];omega)) ?_|refine zn ?_|refine zb ?_|refine ze rfl ?_|refine zr ?_|refine zk ?_|refine zT rfl rfl rfl ?_|refine zU rfl rfl rfl ?_|refine zV rfl rfl rfl ?_|refine zf rfl ?_|refine zt rfl ?_)
    refine o_call (refListO (X10.pi.slots on hon)) rfl rfl rfl ?_
    rintro v w11 ⟨a11, c11, rfl, n11⟩
    have X11 := X10.kp0 n11.kp
    have q1 := n10.read.kp n11.kp (by simp)
    have q2 := n11.read
    rw [map_encI] at q1 q2
    refine o_call (same_yes q1 q2 (by simp) (by simp) (by omega)) rfl rfl rfl ?_
    rintro v w12 ⟨rfl, s12⟩
    have X12 := X11.sm s12
    (repeat first|refine zA ?_|refine zB ?_|refine zC ?_|refine zD ?_|refine zE ?_|refine zg ?_|refine zo rfl rfl (by first|exact trivial|(simp only[AllP];omega)|(simp(discharger:=omega)only[AllP,cA,cB];omega)|(simp only[AllP,cC,cD,cE,cF,cG];omega)) ?_|refine zn ?_|refine zb ?_|refine ze rfl ?_|refine zr ?_|refine zk ?_|refine zT rfl rfl rfl ?_|refine zU rfl rfl rfl ?_|refine zV rfl rfl rfl ?_|refine zf rfl ?_|refine zt rfl ?_)
    exact ⟨_, rfl, rfl, sl, _, X12, by dsimp only; omega, by simp⟩
  (repeat first|refine zA ?_|refine zB ?_|refine zC ?_|refine zD ?_|refine zE ?_|refine zg ?_|refine zo rfl rfl (by first|exact trivial|(simp only[AllP];omega)|(simp(discharger:=omega)only[AllP,cA,cB];omega)|(simp only[AllP,cC,cD,cE,cF,cG];omega)) ?_|refine zn ?_|refine zb ?_|refine ze rfl ?_|refine zr ?_|refine zk ?_|refine zT rfl rfl rfl ?_|refine zU rfl rfl rfl ?_|refine zV rfl rfl rfl ?_|refine zf rfl ?_|refine zt rfl ?_)
  refine r_if (p := x.d = 7) rfl (fun hd7 => ?_) (fun hd7 => ?_)
  · (repeat first|refine zA ?_|refine zB ?_|refine zC ?_|refine zD ?_|refine zE ?_|refine zg ?_|refine zo rfl rfl (by first|exact trivial|(simp only[AllP];omega)|(simp(discharger:=omega)only[AllP,cA,cB];omega)|(simp only[AllP,cC,cD,cE,cF,cG];omega)) ?_|refine zn ?_|refine zb ?_|refine ze rfl ?_|refine zr ?_|refine zk ?_|refine zT rfl rfl rfl ?_|refine zU rfl rfl rfl ?_|refine zV rfl rfl rfl ?_|refine zf rfl ?_|refine zt rfl ?_)
    have ho := hg1.pi.slots on hon
    refine r_seq ?_
    refine r_mix (fun w' => Blk w' W _ 90 ∧ Kp [] w2 w') [(0, false), (1, false), (2, false), (4, false), (5, false), (3, true), (6, false), (7, true)] follows_mixed (by kernel_rfl) (by kernel_rfl) (by kernel_rfl) ⟨(Sm.drew w2).blk hg1.pi.hdr, (Sm.drew w2).kp []⟩ ?_
    have gd := hg1.sm (Sm.drew w2)
    have hkd := (Sm.drew w2).kp []
    generalize ({ w2 with drawn := w2.drawn + 1 } : World) = w3 at gd hkd ⊢
    (repeat first|refine xo rfl rfl (by first|exact trivial|(simp only[AllP];omega)|(simp(discharger:=omega)only[AllP,cA,cB];omega)|(simp only[AllP,cC,cD,cE,cF,cG];omega)) ?_|refine xn ?_|refine x_know rfl _ _ (some true) rfl rfl rfl ?_|refine x_know rfl _ _ (some false) rfl rfl rfl ?_|refine x_know rfl _ _ none rfl rfl rfl ?_)
    refine x_act rfl ?_
    refine o_call (CopyO gd.pi.tab (gd.pi.slots on hon)) rfl rfl rfl ?_
    rintro v w4 ⟨q4, rfl, hq4, k4, hn4⟩
    have g4 := gd.kp0 k4
    refine o_nil ⟨.inr ⟨g4.pi.hdr, hkd.trans k4⟩, ?_⟩
    (repeat first|refine xo rfl rfl (by first|exact trivial|(simp only[AllP];omega)|(simp(discharger:=omega)only[AllP,cA,cB];omega)|(simp only[AllP,cC,cD,cE,cF,cG];omega)) ?_|refine xn ?_|refine x_know rfl _ _ (some true) rfl rfl rfl ?_|refine x_know rfl _ _ (some false) rfl rfl rfl ?_|refine x_know rfl _ _ none rfl rfl rfl ?_)
    refine x_act rfl ?_
    refine o_store (b := W) (off := wi) (v := .pointer (q4.map fun x => ⟨x.1, 0, none⟩)) (c := none) ?_ g4.pi.hdr (by rw [rowL_len]; omega) rfl rfl rfl rfl rfl rfl ?_
    · show Value.pointer (some ⟨W, 0 + wi, none⟩) = _
      rw [Nat.zero_add]
    intro w5 hu5
    refine o_nil ⟨.inl (by kernel_rfl), ?_⟩
    (repeat first|refine xo rfl rfl (by first|exact trivial|(simp only[AllP];omega)|(simp(discharger:=omega)only[AllP,cA,cB];omega)|(simp only[AllP,cC,cD,cE,cF,cG];omega)) ?_|refine xn ?_|refine x_know rfl _ _ (some true) rfl rfl rfl ?_|refine x_know rfl _ _ (some false) rfl rfl rfl ?_|refine x_know rfl _ _ none rfl rfl rfl ?_)
    have kW5 : Kp [W] w4 w5 := hu5.kp [W] (.inl (by simp))
    have sl5 := (g4.pi.slots on hon).kp kW5 (fun b hb hb2 => g4.pi.dj.sep on 11 b (by omega) (by rw [dd_sl hon]; exact hb) (by rw [dd_W]; exact hb2))
    have tab5 := g4.pi.tab.kp kW5 (fun hb => g4.pi.dj.sep 12 11 _ (by omega) (by rw [dd_C]; exact g4.pi.tabIn) (by rw [dd_W]; exact hb))
    refine r_seq ?_
    refine r_mix (fun w' => Kp [] w5 w') [(0, false), (1, false), (2, false), (4, false), (5, false), (3, true), (6, false), (7, true)] follows_mixed (by kernel_rfl) (by kernel_rfl) (by kernel_rfl) ((Sm.drew w5).kp []) ?_
    have hkd5 := (Sm.drew w5).kp []
    generalize ({ w5 with drawn := w5.drawn + 1 } : World) = w6 at hkd5 ⊢
    have sl6 := sl5.kp hkd5 (by simp)
    have tab6 := tab5.kp hkd5 (by simp)
    (repeat first|refine xo rfl rfl (by first|exact trivial|(simp only[AllP];omega)|(simp(discharger:=omega)only[AllP,cA,cB];omega)|(simp only[AllP,cC,cD,cE,cF,cG];omega)) ?_|refine xn ?_|refine x_know rfl _ _ (some true) rfl rfl rfl ?_|refine x_know rfl _ _ (some false) rfl rfl rfl ?_|refine x_know rfl _ _ none rfl rfl rfl ?_)
    refine x_act rfl ?_
    refine o_call (refCopyP tab6 sl6) rfl rfl rfl ?_
    rintro v w7 ⟨q7, rfl, hq7, k7, hn7⟩
    have k57 := hkd5.trans k7
    have hB7 := k57.blk (by simp) hu5.blk
    refine o_nil ⟨.inr k57, ?_⟩
    (repeat first|refine xo rfl rfl (by first|exact trivial|(simp only[AllP];omega)|(simp(discharger:=omega)only[AllP,cA,cB];omega)|(simp only[AllP,cC,cD,cE,cF,cG];omega)) ?_|refine xn ?_|refine x_know rfl _ _ (some true) rfl rfl rfl ?_|refine x_know rfl _ _ (some false) rfl rfl rfl ?_|refine x_know rfl _ _ none rfl rfl rfl ?_)
    refine x_act rfl ?_
    refine o_store (b := W) (off := 4 + wi) (v := .pointer (q7.map fun x => ⟨x.1, 0, none⟩)) (c := none) rfl hB7 (by rw [List.length_set, rowL_len]; omega) rfl rfl rfl rfl rfl rfl ?_
    intro w8 hu8
    refine o_nil ⟨.inl (by kernel_rfl), ?_⟩
    (repeat first|refine xo rfl rfl (by first|exact trivial|(simp only[AllP];omega)|(simp(discharger:=omega)only[AllP,cA,cB];omega)|(simp only[AllP,cC,cD,cE,cF,cG];omega)) ?_|refine xn ?_|refine x_know rfl _ _ (some true) rfl rfl rfl ?_|refine x_know rfl _ _ (some false) rfl rfl rfl ?_|refine x_know rfl _ _ none rfl rfl rfl ?_)
    have hB8 := hu8.blk
    have k48 : Kp [W] w4 w8 := (kW5.trans (k57.mono (by simp))).trans (hu8.kp [W] (.inl (by simp)))
    have z3 := gd.pi.kp.size
    have z4 := k4.size
    have z5 := kW5.size
    have z6 := hkd5.size
    have hWlt : W < w3.heap.size := gd.pi.dj.lt 11 W (by rw [dd_W]; simp)
    cases hsl : sl on with
    | none =>
      have e4 := hq4.2 hsl
      have e7 := hq7.2 hsl
      subst e4 e7
      have hF := g4.place (s' := none) hwi SlAt.none (by simp [slb]) k48 hB8
      (repeat first|refine zA ?_|refine zB ?_|refine zC ?_|refine zD ?_|refine zE ?_|refine zg ?_|refine zo rfl rfl (by first|exact trivial|(simp only[AllP];omega)|(simp(discharger:=omega)only[AllP,cA,cB];omega)|(simp only[AllP,cC,cD,cE,cF,cG];omega)) ?_|refine zn ?_|refine zb ?_|refine ze rfl ?_|refine zr ?_|refine zk ?_|refine zT rfl rfl rfl ?_|refine zU rfl rfl rfl ?_|refine zV rfl rfl rfl ?_|refine zf rfl ?_|refine zt rfl ?_)
      have hv : _ = some (Value.pointer none) := hF.svu hwi
      refine o_load (v := .pointer none) rfl hF.pi.hdr (by simpa using hv) rfl rfl rfl rfl ?_
      (repeat first|refine zA ?_|refine zB ?_|refine zC ?_|refine zD ?_|refine zE ?_|refine zg ?_|refine zo rfl rfl (by first|exact trivial|(simp only[AllP];omega)|(simp(discharger:=omega)only[AllP,cA,cB];omega)|(simp only[AllP,cC,cD,cE,cF,cG];omega)) ?_|refine zn ?_|refine zb ?_|refine ze rfl ?_|refine zr ?_|refine zk ?_|refine zT rfl rfl rfl ?_|refine zU rfl rfl rfl ?_|refine zV rfl rfl rfl ?_|refine zf rfl ?_|refine zt rfl ?_)
      exact ⟨_, rfl, rfl, hF.after⟩
    | some s =>
      obtain ⟨x4, rfl⟩ : ∃ y, q4 = some y := by
        cases q4 with
        | none => have := hq4.1 rfl; rw [hsl] at this; cases this
        | some y => exact ⟨y, rfl⟩
      obtain ⟨x7, rfl⟩ : ∃ y, q7 = some y := by
        cases q7 with
        | none => have := hq7.1 rfl; rw [hsl] at this; cases this
        | some y => exact ⟨y, rfl⟩
      have h4 := hn4 x4 rfl
      have h7 := hn7 x7 rfl
      have hso := g4.pi.slots on hon s hsl
      rw [hsl] at h4 h7
      have hs' : SlAt w8 (some ⟨x4.1, s.ws, x4.2.1, x4.2.2, x7.1, x7.2.1, x7.2.2⟩) := by
        intro s1 hs1
        cases hs1
        refine ⟨h4.at_.kp k48 (fun b hb hb2 => ?_), hso.tr, h7.at_.kp (hu8.kp [W] (.inl (by simp))) (fun b hb hb2 => ?_), fun b hb hb2 => ?_⟩
        · have := h4.new b hb; simp at hb2; omega
        · have := h7.new b hb; simp at hb2; omega
        · have := h4.at_.lt b hb; have := h7.new b hb2; omega
      have hF := g4.place hwi hs' (fun b hb => by
        rcases List.mem_append.1 hb with hb | hb
        · have := h4.new b hb; exact ⟨by omega, gd.pi.away this⟩
        · have := h7.new b hb; exact ⟨by omega, gd.pi.away (by omega)⟩) k48 hB8
      (repeat first|refine zA ?_|refine zB ?_|refine zC ?_|refine zD ?_|refine zE ?_|refine zg ?_|refine zo rfl rfl (by first|exact trivial|(simp only[AllP];omega)|(simp(discharger:=omega)only[AllP,cA,cB];omega)|(simp only[AllP,cC,cD,cE,cF,cG];omega)) ?_|refine zn ?_|refine zb ?_|refine ze rfl ?_|refine zr ?_|refine zk ?_|refine zT rfl rfl rfl ?_|refine zU rfl rfl rfl ?_|refine zV rfl rfl rfl ?_|refine zf rfl ?_|refine zt rfl ?_)
      have hv : _ = some (ptr x4.1) := hF.svu hwi
      refine o_load (v := ptr x4.1) rfl hF.pi.hdr (by simpa using hv) rfl rfl rfl rfl ?_
      (repeat first|refine zA ?_|refine zB ?_|refine zC ?_|refine zD ?_|refine zE ?_|refine zg ?_|refine zo rfl rfl (by first|exact trivial|(simp only[AllP];omega)|(simp(discharger:=omega)only[AllP,cA,cB];omega)|(simp only[AllP,cC,cD,cE,cF,cG];omega)) ?_|refine zn ?_|refine zb ?_|refine ze rfl ?_|refine zr ?_|refine zk ?_|refine zT rfl rfl rfl ?_|refine zU rfl rfl rfl ?_|refine zV rfl rfl rfl ?_|refine zf rfl ?_|refine zt rfl ?_)
      exact ⟨_, rfl, rfl, hF.after⟩
  (repeat first|refine zA ?_|refine zB ?_|refine zC ?_|refine zD ?_|refine zE ?_|refine zg ?_|refine zo rfl rfl (by first|exact trivial|(simp only[AllP];omega)|(simp(discharger:=omega)only[AllP,cA,cB];omega)|(simp only[AllP,cC,cD,cE,cF,cG];omega)) ?_|refine zn ?_|refine zb ?_|refine ze rfl ?_|refine zr ?_|refine zk ?_|refine zT rfl rfl rfl ?_|refine zU rfl rfl rfl ?_|refine zV rfl rfl rfl ?_|refine zf rfl ?_|refine zt rfl ?_)
  refine r_if (p := x.d = 8) rfl (fun hd8 => ?_) (fun hd8 => ?_)
  · (repeat first|refine zA ?_|refine zB ?_|refine zC ?_|refine zD ?_|refine zE ?_|refine zg ?_|refine zo rfl rfl (by first|exact trivial|(simp only[AllP];omega)|(simp(discharger:=omega)only[AllP,cA,cB];omega)|(simp only[AllP,cC,cD,cE,cF,cG];omega)) ?_|refine zn ?_|refine zb ?_|refine ze rfl ?_|refine zr ?_|refine zk ?_|refine zT rfl rfl rfl ?_|refine zU rfl rfl rfl ?_|refine zV rfl rfl rfl ?_|refine zf rfl ?_|refine zt rfl ?_)
    have ho := hg1.pi.slots on hon
    have hp := hg1.pi.slots wi hwi
    refine o_call (EqualO ho hp) rfl rfl rfl ?_
    rintro v w3 ⟨rfl, s3⟩
    have g3 := hg1.sm s3
    (repeat first|refine zA ?_|refine zB ?_|refine zC ?_|refine zD ?_|refine zE ?_|refine zg ?_|refine zo rfl rfl (by first|exact trivial|(simp only[AllP];omega)|(simp(discharger:=omega)only[AllP,cA,cB];omega)|(simp only[AllP,cC,cD,cE,cF,cG];omega)) ?_|refine zn ?_|refine zb ?_|refine ze rfl ?_|refine zr ?_|refine zk ?_|refine zT rfl rfl rfl ?_|refine zU rfl rfl rfl ?_|refine zV rfl rfl rfl ?_|refine zf rfl ?_|refine zt rfl ?_)
    refine o_call (refEqualO (g3.pi.slots on hon) (g3.pi.slots wi hwi)) rfl rfl rfl ?_
    rintro v w4 ⟨rfl, s4⟩
    have g4 := g3.sm s4
    (repeat first|refine zA ?_|refine zB ?_|refine zC ?_|refine zD ?_|refine zE ?_|refine zg ?_|refine zo rfl rfl (by first|exact trivial|(simp only[AllP];omega)|(simp(discharger:=omega)only[AllP,cA,cB];omega)|(simp only[AllP,cC,cD,cE,cF,cG];omega)) ?_|refine zn ?_|refine zb ?_|refine ze rfl ?_|refine zr ?_|refine zk ?_|refine zT rfl rfl rfl ?_|refine zU rfl rfl rfl ?_|refine zV rfl rfl rfl ?_|refine zf rfl ?_|refine zt rfl ?_)
    refine o_is true 7 true rfl rfl rfl (by simp) ?_
    (repeat first|refine zA ?_|refine zB ?_|refine zC ?_|refine zD ?_|refine zE ?_|refine zg ?_|refine zo rfl rfl (by first|exact trivial|(simp only[AllP];omega)|(simp(discharger:=omega)only[AllP,cA,cB];omega)|(simp only[AllP,cC,cD,cE,cF,cG];omega)) ?_|refine zn ?_|refine zb ?_|refine ze rfl ?_|refine zr ?_|refine zk ?_|refine zT rfl rfl rfl ?_|refine zU rfl rfl rfl ?_|refine zV rfl rfl rfl ?_|refine zf rfl ?_|refine zt rfl ?_)
    refine o_call (WithinO (g4.pi.slots on hon) (g4.pi.slots wi hwi)) rfl rfl rfl ?_
    rintro v w5 ⟨rfl, s5⟩
    have g5 := g4.sm s5
    (repeat first|refine zA ?_|refine zB ?_|refine zC ?_|refine zD ?_|refine zE ?_|refine zg ?_|refine zo rfl rfl (by first|exact trivial|(simp only[AllP];omega)|(simp(discharger:=omega)only[AllP,cA,cB];omega)|(simp only[AllP,cC,cD,cE,cF,cG];omega)) ?_|refine zn ?_|refine zb ?_|refine ze rfl ?_|refine zr ?_|refine zk ?_|refine zT rfl rfl rfl ?_|refine zU rfl rfl rfl ?_|refine zV rfl rfl rfl ?_|refine zf rfl ?_|refine zt rfl ?_)
    refine o_call (refWithinO (g5.pi.slots on hon) (g5.pi.slots wi hwi)) rfl rfl rfl ?_
    rintro v w6 ⟨rfl, s6⟩
    have g6 := g5.sm s6
    (repeat first|refine zA ?_|refine zB ?_|refine zC ?_|refine zD ?_|refine zE ?_|refine zg ?_|refine zo rfl rfl (by first|exact trivial|(simp only[AllP];omega)|(simp(discharger:=omega)only[AllP,cA,cB];omega)|(simp only[AllP,cC,cD,cE,cF,cG];omega)) ?_|refine zn ?_|refine zb ?_|refine ze rfl ?_|refine zr ?_|refine zk ?_|refine zT rfl rfl rfl ?_|refine zU rfl rfl rfl ?_|refine zV rfl rfl rfl ?_|refine zf rfl ?_|refine zt rfl ?_)
    refine o_is true 16 true rfl rfl rfl (by simp) ?_
    (repeat first|refine zA ?_|refine zB ?_|refine zC ?_|refine zD ?_|refine zE ?_|refine zg ?_|refine zo rfl rfl (by first|exact trivial|(simp only[AllP];omega)|(simp(discharger:=omega)only[AllP,cA,cB];omega)|(simp only[AllP,cC,cD,cE,cF,cG];omega)) ?_|refine zn ?_|refine zb ?_|refine ze rfl ?_|refine zr ?_|refine zk ?_|refine zT rfl rfl rfl ?_|refine zU rfl rfl rfl ?_|refine zV rfl rfl rfl ?_|refine zf rfl ?_|refine zt rfl ?_)
    refine o_call (MeetsO (g6.pi.slots on hon) (g6.pi.slots wi hwi)) rfl rfl rfl ?_
    rintro v w7 ⟨rfl, s7⟩
    have g7 := g6.sm s7
    (repeat first|refine zA ?_|refine zB ?_|refine zC ?_|refine zD ?_|refine zE ?_|refine zg ?_|refine zo rfl rfl (by first|exact trivial|(simp only[AllP];omega)|(simp(discharger:=omega)only[AllP,cA,cB];omega)|(simp only[AllP,cC,cD,cE,cF,cG];omega)) ?_|refine zn ?_|refine zb ?_|refine ze rfl ?_|refine zr ?_|refine zk ?_|refine zT rfl rfl rfl ?_|refine zU rfl rfl rfl ?_|refine zV rfl rfl rfl ?_|refine zf rfl ?_|refine zt rfl ?_)
    refine o_call (refMeetsO (g7.pi.slots on hon) (g7.pi.slots wi hwi)) rfl rfl rfl ?_
    rintro v w8 ⟨rfl, s8⟩
    have g8 := g7.sm s8
    (repeat first|refine zA ?_|refine zB ?_|refine zC ?_|refine zD ?_|refine zE ?_|refine zg ?_|refine zo rfl rfl (by first|exact trivial|(simp only[AllP];omega)|(simp(discharger:=omega)only[AllP,cA,cB];omega)|(simp only[AllP,cC,cD,cE,cF,cG];omega)) ?_|refine zn ?_|refine zb ?_|refine ze rfl ?_|refine zr ?_|refine zk ?_|refine zT rfl rfl rfl ?_|refine zU rfl rfl rfl ?_|refine zV rfl rfl rfl ?_|refine zf rfl ?_|refine zt rfl ?_)
    exact ⟨_, rfl, by simp, g8.after⟩
  (repeat first|refine zA ?_|refine zB ?_|refine zC ?_|refine zD ?_|refine zE ?_|refine zg ?_|refine zo rfl rfl (by first|exact trivial|(simp only[AllP];omega)|(simp(discharger:=omega)only[AllP,cA,cB];omega)|(simp only[AllP,cC,cD,cE,cF,cG];omega)) ?_|refine zn ?_|refine zb ?_|refine ze rfl ?_|refine zr ?_|refine zk ?_|refine zT rfl rfl rfl ?_|refine zU rfl rfl rfl ?_|refine zV rfl rfl rfl ?_|refine zf rfl ?_|refine zt rfl ?_)
  refine r_if (p := x.d = 9) rfl (fun hd9 => ?_) (fun hd9 => ?_)
  · (repeat first|refine zA ?_|refine zB ?_|refine zC ?_|refine zD ?_|refine zE ?_|refine zg ?_|refine zo rfl rfl (by first|exact trivial|(simp only[AllP];omega)|(simp(discharger:=omega)only[AllP,cA,cB];omega)|(simp only[AllP,cC,cD,cE,cF,cG];omega)) ?_|refine zn ?_|refine zb ?_|refine ze rfl ?_|refine zr ?_|refine zk ?_|refine zT rfl rfl rfl ?_|refine zU rfl rfl rfl ?_|refine zV rfl rfl rfl ?_|refine zf rfl ?_|refine zt rfl ?_)
    refine r_loop (α := JG) [0, 2, 3, 5, 17, 18, 19] (fun j => [ptr W, sv (sl on), rv (sl on), ptr bx, .slice j.al j.i j.cl, .slice j.am j.i j.cm, I j.i]) (fun j wc => JI w2 wc sl x j) (fun j => x.ns.length - j.i) ⟨0, none, 0, none, 0, []⟩ rfl ⟨Kp.refl _ _, ownS_nil _ _ _, ownS_nil _ _ _, ⟨rfl, fun k j c h => by simp at h, fun k k' y y' h => by simp at h⟩, by simp, by simp [blkOf], by simp [blkOf], by simp, by simp [blkOf]⟩ ?_
    rintro ⟨i, al, cl, am, cm, cps⟩ e wc hJ
    have hle := hJ.le
    have hnl := hx1.nl
    dsimp only at hle
    have gc := hg1.kp0 hJ.kp
    have hBc := hJ.kp.blk (by simp) hB1
    have hJl : OwnS wc 25 1 al i cl (((x.ns.take i).map fourN).map fun k => sv (sl k)) := hJ.l
    have hJm : OwnS wc 43 1 am i cm (cps.map cpv) := hJ.m
    have hnal : ∀ b, b ∈ blkOf al → w2.heap.size ≤ b := hJ.nl
    have hnam : ∀ b, b ∈ blkOf am → w2.heap.size ≤ b := hJ.nm
    have hdlm : ∀ b, b ∈ blkOf al → b ∉ blkOf am := hJ.dlm
    have hnc : ∀ y, some y ∈ cps → ∀ b, b ∈ y.1 :: blkOf y.2.1 → w2.heap.size ≤ b ∧ b < wc.heap.size ∧ b ∉ blkOf al ∧ b ∉ blkOf am := hJ.nc
    have hcps : Cps wc sl ((x.ns.take i).map fourN) cps := hJ.cps
    (repeat first|refine zA ?_|refine zB ?_|refine zC ?_|refine zD ?_|refine zE ?_|refine zg ?_|refine zo rfl rfl (by first|exact trivial|(simp only[AllP];omega)|(simp(discharger:=omega)only[AllP,cA,cB];omega)|(simp only[AllP,cC,cD,cE,cF,cG];omega)) ?_|refine zn ?_|refine zb ?_|refine ze rfl ?_|refine zr ?_|refine zk ?_|refine zT rfl rfl rfl ?_|refine zU rfl rfl rfl ?_|refine zV rfl rfl rfl ?_|refine zf rfl ?_|refine zt rfl ?_)
    refine o_load rfl hBc rfl rfl rfl rfl rfl ?_
    (repeat first|refine zA ?_|refine zB ?_|refine zC ?_|refine zD ?_|refine zE ?_|refine zg ?_|refine zo rfl rfl (by first|exact trivial|(simp only[AllP];omega)|(simp(discharger:=omega)only[AllP,cA,cB];omega)|(simp only[AllP,cC,cD,cE,cF,cG];omega)) ?_|refine zn ?_|refine zb ?_|refine ze rfl ?_|refine zr ?_|refine zk ?_|refine zT rfl rfl rfl ?_|refine zU rfl rfl rfl ?_|refine zV rfl rfl rfl ?_|refine zf rfl ?_|refine zt rfl ?_)
    refine r_if (p := (i : Int) < x.ns.length) rfl (fun hc => ?_) (fun hc => ?_)
    · have hlt : i < x.ns.length := by omega
      obtain ⟨z, hz⟩ : ∃ z, x.ns[i]? = some z := ⟨_, List.getElem?_eq_getElem hlt⟩
      have hj4 := (fourN_eq z).2
      have htk : (x.ns.take (i + 1)).map fourN = (x.ns.take i).map fourN ++ [fourN z] := by rw [List.take_add_one, hz]; simp
      obtain ⟨bn, oN, hna, hbn, hcn⟩ := hx1.ns.at_ (by simp; omega)
      have hcz : ∀ w', Kp [] w2 w' → w'.cell? ⟨bn, oN + i, none⟩ = some (I z) := fun w' hk => by
        rw [← hcn i _ (by rw [List.getElem?_map, hz]; rfl)]
        exact World.cell?_of_block (hk.at_ bn hbn (by simp))
      have hop : ∀ w', Kp [] w2 w' → w'.cell? ⟨bx, 4, none⟩ = some (.slice (some ⟨bn, oN, none⟩) x.ns.length x.nc) := fun w' hk => by
        rw [← hna]; exact (hk.blk (by simp) hB1).cell rfl
      (repeat first|refine zA ?_|refine zB ?_|refine zC ?_|refine zD ?_|refine zE ?_|refine zg ?_|refine zo rfl rfl (by first|exact trivial|(simp only[AllP];omega)|(simp(discharger:=omega)only[AllP,cA,cB];omega)|(simp only[AllP,cC,cD,cE,cF,cG];omega)) ?_|refine zn ?_|refine zb ?_|refine ze rfl ?_|refine zr ?_|refine zk ?_|refine zT rfl rfl rfl ?_|refine zU rfl rfl rfl ?_|refine zV rfl rfl rfl ?_|refine zf rfl ?_|refine zt rfl ?_)
      refine r_seq ?_
      refine r_mix (fun w' => Kp [] w2 w') [(0, false), (1, false), (2, false), (3, false), (4, false), (5, false), (6, false), (8, false), (9, false), (7, true), (10, false), (11, false), (12, true), (13, true), (14, false)] follows_mixed (by kernel_rfl) (by kernel_rfl) (by kernel_rfl) (hJ.kp.trans ((Sm.drew wc).kp [])) ?_
      have hkd := (Sm.drew wc).kp []
      generalize ({ wc with drawn := wc.drawn + 1 } : World) = w3 at hkd ⊢
      have k23 := hJ.kp.trans hkd
      (repeat first|refine xo rfl rfl (by first|exact trivial|(simp only[AllP];omega)|(simp(discharger:=omega)only[AllP,cA,cB];omega)|(simp only[AllP,cC,cD,cE,cF,cG];omega)) ?_|refine xn ?_|refine x_know rfl _ _ (some true) rfl rfl rfl ?_|refine x_know rfl _ _ (some false) rfl rfl rfl ?_|refine x_know rfl _ _ none rfl rfl rfl ?_)
      refine x_load rfl rfl hop rfl rfl rfl rfl ?_
      (repeat first|refine xo rfl rfl (by first|exact trivial|(simp only[AllP];omega)|(simp(discharger:=omega)only[AllP,cA,cB];omega)|(simp only[AllP,cC,cD,cE,cF,cG];omega)) ?_|refine xn ?_|refine x_know rfl _ _ (some true) rfl rfl rfl ?_|refine x_know rfl _ _ (some false) rfl rfl rfl ?_|refine x_know rfl _ _ none rfl rfl rfl ?_)
      refine x_load rfl rfl hcz rfl rfl rfl rfl ?_
      (repeat first|refine xo rfl rfl (by first|exact trivial|(simp only[AllP];omega)|(simp(discharger:=omega)only[AllP,cA,cB];omega)|(simp only[AllP,cC,cD,cE,cF,cG];omega)) ?_|refine xn ?_|refine x_know rfl _ _ (some true) rfl rfl rfl ?_|refine x_know rfl _ _ (some false) rfl rfl rfl ?_|refine x_know rfl _ _ none rfl rfl rfl ?_)
      refine x_act rfl ?_
      refine o_call (four_ret z) rfl rfl rfl ?_
      rintro v w4 ⟨rfl, rfl⟩
      refine o_nil ⟨.inr k23, ?_⟩
      (repeat first|refine xo rfl rfl (by first|exact trivial|(simp only[AllP];omega)|(simp(discharger:=omega)only[AllP,cA,cB];omega)|(simp only[AllP,cC,cD,cE,cF,cG];omega)) ?_|refine xn ?_|refine x_know rfl _ _ (some true) rfl rfl rfl ?_|refine x_know rfl _ _ (some false) rfl rfl rfl ?_|refine x_know rfl _ _ none rfl rfl rfl ?_)
      refine x_load (v := sv (sl (fourN z))) rfl rfl (fun w' h' => (h'.blk (by simp) hg1.pi.hdr).cell (by simpa using hg1.svc hj4)) rfl rfl rfl rfl ?_
      (repeat first|refine xo rfl rfl (by first|exact trivial|(simp only[AllP];omega)|(simp(discharger:=omega)only[AllP,cA,cB];omega)|(simp only[AllP,cC,cD,cE,cF,cG];omega)) ?_|refine xn ?_|refine x_know rfl _ _ (some true) rfl rfl rfl ?_|refine x_know rfl _ _ (some false) rfl rfl rfl ?_|refine x_know rfl _ _ none rfl rfl rfl ?_)
      refine x_act rfl ?_
      refine o_buildSlice [sv (sl (fourN z))] rfl (by simp [Value.oneCell']) rfl (by decide) (by decide) rfl rfl rfl rfl rfl ?_
      intro b5 w5 hb5 hu5
      have k45 := hu5.kp [] (.inr (by omega))
      refine o_nil ⟨.inr (k23.trans k45), ?_⟩
      (repeat first|refine xo rfl rfl (by first|exact trivial|(simp only[AllP];omega)|(simp(discharger:=omega)only[AllP,cA,cB];omega)|(simp only[AllP,cC,cD,cE,cF,cG];omega)) ?_|refine xn ?_|refine x_know rfl _ _ (some true) rfl rfl rfl ?_|refine x_know rfl _ _ (some false) rfl rfl rfl ?_|refine x_know rfl _ _ none rfl rfl rfl ?_)
      refine x_act rfl ?_
      refine o_append1 rfl rfl ((hJl.kp hkd (by simp)).kp k45 (by simp)) hu5.blk rfl rfl rfl rfl (by simp only [maxLen]; omega) (by dsimp only; omega) rfl rfl ?_
      intro al' cl' w6 ho6 k6 hnew6
      have k26 := (k23.trans k45).since k6 hnal
      refine o_nil ⟨.inr k26, ?_⟩
      (repeat first|refine xo rfl rfl (by first|exact trivial|(simp only[AllP];omega)|(simp(discharger:=omega)only[AllP,cA,cB];omega)|(simp only[AllP,cC,cD,cE,cF,cG];omega)) ?_|refine xn ?_|refine x_know rfl _ _ (some true) rfl rfl rfl ?_|refine x_know rfl _ _ (some false) rfl rfl rfl ?_|refine x_know rfl _ _ none rfl rfl rfl ?_)
      have g6 := hg1.kp0 k26
      refine r_mix (fun w' => Kp [] w2 w') [(0, false), (1, false), (2, false), (3, false), (4, false), (5, false), (6, false), (8, false), (9, false), (7, true), (10, false), (11, false), (12, true), (13, true), (14, true), (15, false)] follows_mixed (by kernel_rfl) (by kernel_rfl) (by kernel_rfl) (k26.trans ((Sm.drew w6).kp [])) ?_
      have hkd6 := (Sm.drew w6).kp []
      generalize ({ w6 with drawn := w6.drawn + 1 } : World) = w7 at hkd6 ⊢
      have k27 := k26.trans hkd6
      have g7 := g6.kp0 hkd6
      (repeat first|refine xo rfl rfl (by first|exact trivial|(simp only[AllP];omega)|(simp(discharger:=omega)only[AllP,cA,cB];omega)|(simp only[AllP,cC,cD,cE,cF,cG];omega)) ?_|refine xn ?_|refine x_know rfl _ _ (some true) rfl rfl rfl ?_|refine x_know rfl _ _ (some false) rfl rfl rfl ?_|refine x_know rfl _ _ none rfl rfl rfl ?_)
      refine x_load rfl rfl hop rfl rfl rfl rfl ?_
      (repeat first|refine xo rfl rfl (by first|exact trivial|(simp only[AllP];omega)|(simp(discharger:=omega)only[AllP,cA,cB];omega)|(simp only[AllP,cC,cD,cE,cF,cG];omega)) ?_|refine xn ?_|refine x_know rfl _ _ (some true) rfl rfl rfl ?_|refine x_know rfl _ _ (some false) rfl rfl rfl ?_|refine x_know rfl _ _ none rfl rfl rfl ?_)
      refine x_load rfl rfl hcz rfl rfl rfl rfl ?_
      (repeat first|refine xo rfl rfl (by first|exact trivial|(simp only[AllP];omega)|(simp(discharger:=omega)only[AllP,cA,cB];omega)|(simp only[AllP,cC,cD,cE,cF,cG];omega)) ?_|refine xn ?_|refine x_know rfl _ _ (some true) rfl rfl rfl ?_|refine x_know rfl _ _ (some false) rfl rfl rfl ?_|refine x_know rfl _ _ none rfl rfl rfl ?_)
      refine x_act rfl ?_
      refine o_call (four_ret z) rfl rfl rfl ?_
      rintro v w8 ⟨rfl, rfl⟩
      refine o_nil ⟨.inr k27, ?_⟩
      (repeat first|refine xo rfl rfl (by first|exact trivial|(simp only[AllP];omega)|(simp(discharger:=omega)only[AllP,cA,cB];omega)|(simp only[AllP,cC,cD,cE,cF,cG];omega)) ?_|refine xn ?_|refine x_know rfl _ _ (some true) rfl rfl rfl ?_|refine x_know rfl _ _ (some false) rfl rfl rfl ?_|refine x_know rfl _ _ none rfl rfl rfl ?_)
      refine x_load (v := rv (sl (fourN z))) rfl rfl (fun w' h' => (h'.blk (by simp) hg1.pi.hdr).cell (by simpa using hg1.rvc hj4)) rfl rfl rfl rfl ?_
      (repeat first|refine xo rfl rfl (by first|exact trivial|(simp only[AllP];omega)|(simp(discharger:=omega)only[AllP,cA,cB];omega)|(simp only[AllP,cC,cD,cE,cF,cG];omega)) ?_|refine xn ?_|refine x_know rfl _ _ (some true) rfl rfl rfl ?_|refine x_know rfl _ _ (some false) rfl rfl rfl ?_|refine x_know rfl _ _ none rfl rfl rfl ?_)
      refine x_act rfl ?_
      refine o_call (refCopyP g7.pi.tab (g7.pi.slots _ hj4)) rfl rfl rfl ?_
      rintro v w9 ⟨q9, rfl, hq9, k9, hn9⟩
      have k29 := k27.trans k9
      refine o_nil ⟨.inr k29, ?_⟩
      (repeat first|refine xo rfl rfl (by first|exact trivial|(simp only[AllP];omega)|(simp(discharger:=omega)only[AllP,cA,cB];omega)|(simp only[AllP,cC,cD,cE,cF,cG];omega)) ?_|refine xn ?_|refine x_know rfl _ _ (some true) rfl rfl rfl ?_|refine x_know rfl _ _ (some false) rfl rfl rfl ?_|refine x_know rfl _ _ none rfl rfl rfl ?_)
      refine x_act rfl ?_
      refine o_buildSlice [cpv q9] rfl (by simp [Value.oneCell']) rfl (by decide) (by decide) rfl rfl rfl rfl rfl ?_
      intro b10 w10 hb10 hu10
      have k910 := hu10.kp [] (.inr (by omega))
      refine o_nil ⟨.inr (k29.trans k910), ?_⟩
      (repeat first|refine xo rfl rfl (by first|exact trivial|(simp only[AllP];omega)|(simp(discharger:=omega)only[AllP,cA,cB];omega)|(simp only[AllP,cC,cD,cE,cF,cG];omega)) ?_|refine xn ?_|refine x_know rfl _ _ (some true) rfl rfl rfl ?_|refine x_know rfl _ _ (some false) rfl rfl rfl ?_|refine x_know rfl _ _ none rfl rfl rfl ?_)
      refine x_act rfl ?_
      have hm6 := ((hJm.kp hkd (by simp)).kp k45 (by simp)).kp k6 (fun b hb hb2 => hdlm b hb2 hb)
      have k610 := (hkd6.trans k9).trans k910
      refine o_append1 rfl rfl (hm6.kp k610 (by simp)) hu10.blk rfl rfl rfl rfl (by simp only [maxLen]; omega) (by dsimp only; omega) rfl rfl ?_
      intro am' cm' w11 ho11 k11 hnew11
      have k211 := (k29.trans k910).since k11 hnam
      refine o_nil ⟨.inr k211, ?_⟩
      (repeat first|refine xo rfl rfl (by first|exact trivial|(simp only[AllP];omega)|(simp(discharger:=omega)only[AllP,cA,cB];omega)|(simp only[AllP,cC,cD,cE,cF,cG];omega)) ?_|refine xn ?_|refine x_know rfl _ _ (some true) rfl rfl rfl ?_|refine x_know rfl _ _ (some false) rfl rfl rfl ?_|refine x_know rfl _ _ none rfl rfl rfl ?_)
      (repeat first|refine zA ?_|refine zB ?_|refine zC ?_|refine zD ?_|refine zE ?_|refine zg ?_|refine zo rfl rfl (by first|exact trivial|(simp only[AllP];omega)|(simp(discharger:=omega)only[AllP,cA,cB];omega)|(simp only[AllP,cC,cD,cE,cF,cG];omega)) ?_|refine zn ?_|refine zb ?_|refine ze rfl ?_|refine zr ?_|refine zk ?_|refine zT rfl rfl rfl ?_|refine zU rfl rfl rfl ?_|refine zV rfl rfl rfl ?_|refine zf rfl ?_|refine zt rfl ?_)
      have z23 := k23.size
      have zc := hJ.kp.size
      have zd := hkd.size
      have z45 := k45.size
      have z6 := k6.size
      have zd6 := hkd6.size
      have z9 := k9.size
      have z910 := k910.size
      have z11 := k11.size
      have hal' : ∀ b, b ∈ blkOf al' → b ∈ blkOf al ∨ w5.heap.size ≤ b := hnew6
      have ham' : ∀ b, b ∈ blkOf am' → b ∈ blkOf am ∨ w10.heap.size ≤ b := hnew11
      have hlam := hJm.lt
      have hlal := hJl.lt
      have hlal' : ∀ b, b ∈ blkOf al' → b < w6.heap.size := ho6.lt
      have hidl : ((x.ns.take i).map fourN).length = i := by simp; omega
      have hcl : cps.length = i := by rw [hcps.len, hidl]
      have old : ∀ b, b < wc.heap.size → b ∉ blkOf al → b ∉ blkOf am → w11.heap[b]? = wc.heap[b]? := fun b h1 h2 h3 => by
        rw [k11.at_ b (by omega) h3, k610.at_ b (by omega) (by simp), k6.at_ b (by omega) h2, k45.at_ b (by omega) (by simp), hkd.at_ b h1 (by simp)]
      refine ⟨⟨i + 1, al', cl', am', cm', cps ++ [q9]⟩, rfl, ⟨k211, ?_, ?_, ⟨?_, ?_, ?_⟩, by dsimp only; omega, ?_, ?_, ?_, ?_⟩, by dsimp only; omega⟩
      · dsimp only
        rw [htk, List.map_append]
        refine (ho6.kp k610 (by simp)).kp k11 fun b hb hb2 => ?_
        rcases hal' b hb with h1 | h1
        · exact hdlm b h1 hb2
        · have := hlam b hb2; omega
      · dsimp only
        rw [List.map_append]
        exact ho11
      · dsimp only
        rw [htk, List.length_append, List.length_append, hcl, hidl]; rfl
      · intro k j c h1 h2
        dsimp only at h1 h2
        rw [htk] at h1
        by_cases hk : k < i
        · rw [List.getElem?_append_left (by omega)] at h1 h2
          obtain ⟨a1, a2⟩ := hcps.ok k j c h1 h2
          refine ⟨a1, fun y hy => ?_⟩
          have hr := a2 y hy
          subst hy
          have hb := hnc y (List.mem_of_getElem? h2)
          exact hr.keep fun b hb2 => old b (hb b hb2).2.1 (hb b hb2).2.2.1 (hb b hb2).2.2.2
        · rw [List.getElem?_append_right (by omega)] at h1 h2
          have hk0 : k - i = 0 := by have := (List.getElem?_eq_some_iff.1 h2).1; simp at this; omega
          rw [hidl, hk0] at h1
          rw [hcl, hk0] at h2
          simp at h1 h2
          subst h1 h2
          refine ⟨hq9, fun y hy => ?_⟩
          have hr := hn9 y hy
          refine (hr.at_.kp k910 (by simp)).kp k11 fun b hb hb2 => ?_
          have := hr.new b hb; have := hlam b hb2; omega
      · intro k k' y y' h1 h2 e
        dsimp only at h1 h2
        have hnew : ∀ y, q9 = some y → w8.heap.size ≤ y.1 := fun y hy => (hn9 y hy).new y.1 (by simp)
        by_cases hk : k < i
        · rw [List.getElem?_append_left (by omega)] at h1
          have hb := (hnc y (List.mem_of_getElem? h1) y.1 (by simp)).2.1
          by_cases hk' : k' < i
          · rw [List.getElem?_append_left (by omega)] at h2
            exact hcps.inj k k' y y' h1 h2 e
          · rw [List.getElem?_append_right (by omega)] at h2
            have hk0 : k' - cps.length = 0 := by have := (List.getElem?_eq_some_iff.1 h2).1; simp at this; omega
            rw [hk0] at h2
            simp at h2
            have := hnew y' h2; omega
        · rw [List.getElem?_append_right (by omega)] at h1
          have hk0 : k - cps.length = 0 := by have := (List.getElem?_eq_some_iff.1 h1).1; simp at this; omega
          rw [hk0] at h1
          simp at h1
          by_cases hk' : k' < i
          · rw [List.getElem?_append_left (by omega)] at h2
            have hb := (hnc y' (List.mem_of_getElem? h2) y'.1 (by simp)).2.1
            have := hnew y h1; omega
          · rw [List.getElem?_append_right (by omega)] at h2
            have hk1 : k' - cps.length = 0 := by have := (List.getElem?_eq_some_iff.1 h2).1; simp at this; omega
            omega
      · intro b hb
        rcases hal' b hb with h1 | h1
        · exact hnal b h1
        · omega
      · intro b hb
        rcases ham' b hb with h1 | h1
        · exact hnam b h1
        · omega
      · intro y hy b hb
        dsimp only at hy ⊢
        rcases List.mem_append.1 hy with hy | hy
        · obtain ⟨h1, h2, h3, h4⟩ := hnc y hy b hb
          refine ⟨h1, by omega, fun h5 => ?_, fun h5 => ?_⟩
          · rcases hal' b h5 with h6 | h6
            · exact h3 h6
            · omega
          · rcases ham' b h5 with h6 | h6
            · exact h4 h6
            · omega
        · simp at hy
          have hr := hn9 y hy.symm
          have h1 := hr.new b hb
          have h2 := hr.at_.lt b hb
          refine ⟨by omega, by omega, fun h5 => ?_, fun h5 => ?_⟩
          · have := hlal' b h5; omega
          · rcases ham' b h5 with h6 | h6
            · have := hlam b h6; omega
            · omega
      · intro b hb hb2
        dsimp only at hb hb2
        have h0 := hlal' b hb
        rcases ham' b hb2 with h1 | h1
        · have := hlam b h1
          rcases hal' b hb with h2 | h2
          · exact hdlm b h2 h1
          · omega
        · omega
    · (repeat first|refine zA ?_|refine zB ?_|refine zC ?_|refine zD ?_|refine zE ?_|refine zg ?_|refine zo rfl rfl (by first|exact trivial|(simp only[AllP];omega)|(simp(discharger:=omega)only[AllP,cA,cB];omega)|(simp only[AllP,cC,cD,cE,cF,cG];omega)) ?_|refine zn ?_|refine zb ?_|refine ze rfl ?_|refine zr ?_|refine zk ?_|refine zT rfl rfl rfl ?_|refine zU rfl rfl rfl ?_|refine zV rfl rfl rfl ?_|refine zf rfl ?_|refine zt rfl ?_)
      have hil : i = x.ns.length := by omega
      subst hil
      rw [List.take_length] at hJl hcps
      have hlt2 : ∀ b, b ∈ slb (sl on) → b < w2.heap.size := fun b hb => hg1.pi.dj.lt on b (by rw [dd_sl hon]; exact hb)
      have hidx : ∀ j ∈ x.ns.map fourN, j < 4 := fun j hj => by
        obtain ⟨z, _, rfl⟩ := List.mem_map.1 hj
        exact (fourN_eq z).2
      have hjo := JoinO gc.pi.tab gc.four hon hidx hJl.read (cl := cl) (fun b hb hb2 => by have := hnal b hb; have := hlt2 b hb2; omega) (by simp; omega)
      rw [List.length_map] at hjo
      refine o_call hjo rfl rfl rfl ?_
      rintro v w12 ⟨rfl, hh⟩
      (repeat first|refine zA ?_|refine zB ?_|refine zC ?_|refine zD ?_|refine zE ?_|refine zg ?_|refine zo rfl rfl (by first|exact trivial|(simp only[AllP];omega)|(simp(discharger:=omega)only[AllP,cA,cB];omega)|(simp only[AllP,cC,cD,cE,cF,cG];omega)) ?_|refine zn ?_|refine zb ?_|refine ze rfl ?_|refine zr ?_|refine zk ?_|refine zT rfl rfl rfl ?_|refine zU rfl rfl rfl ?_|refine zV rfl rfl rfl ?_|refine zf rfl ?_|refine zt rfl ?_)
      have khh := hh.kp (gc.pi.slots on hon)
      have hc12 : Cps w12 sl (x.ns.map fourN) cps := ⟨hcps.len, fun k j c h1 h2 => by
        obtain ⟨a1, a2⟩ := hcps.ok k j c h1 h2
        refine ⟨a1, fun y hy => (a2 y hy).kp khh fun b hb hb2 => ?_⟩
        have := (hnc y (by rw [← hy]; exact List.mem_of_getElem? h2) b hb).1
        have := hlt2 b hb2; omega, hcps.inj⟩
      have hjr := refJoinO gc.pi.tab gc.four hon hidx hh hc12 (by simp; omega) (cm := cm) (hJm.read.kp khh fun b hb hb2 => by have := hnam b hb; have := hlt2 b hb2; omega) (fun b hb hb2 => by have := hnam b hb; have := hlt2 b hb2; omega) (fun y hy b hb hb2 => by have := (hnc y hy b hb).1; have := hlt2 b hb2; omega)
      rw [List.length_map] at hjr
      refine o_call hjr rfl rfl rfl ?_
      rintro v w13 ⟨rfl, o', ht⟩
      (repeat first|refine zA ?_|refine zB ?_|refine zC ?_|refine zD ?_|refine zE ?_|refine zg ?_|refine zo rfl rfl (by first|exact trivial|(simp only[AllP];omega)|(simp(discharger:=omega)only[AllP,cA,cB];omega)|(simp only[AllP,cC,cD,cE,cF,cG];omega)) ?_|refine zn ?_|refine zb ?_|refine ze rfl ?_|refine zr ?_|refine zk ?_|refine zT rfl rfl rfl ?_|refine zU rfl rfl rfl ?_|refine zV rfl rfl rfl ?_|refine zf rfl ?_|refine zt rfl ?_)
      refine o_is true 3 true rfl rfl rfl (by simp) ?_
      (repeat first|refine zA ?_|refine zB ?_|refine zC ?_|refine zD ?_|refine zE ?_|refine zg ?_|refine zo rfl rfl (by first|exact trivial|(simp only[AllP];omega)|(simp(discharger:=omega)only[AllP,cA,cB];omega)|(simp only[AllP,cC,cD,cE,cF,cG];omega)) ?_|refine zn ?_|refine zb ?_|refine ze rfl ?_|refine zr ?_|refine zk ?_|refine zT rfl rfl rfl ?_|refine zU rfl rfl rfl ?_|refine zV rfl rfl rfl ?_|refine zf rfl ?_|refine zt rfl ?_)
      refine o_call (num_ret _) rfl rfl rfl ?_
      rintro v w14 ⟨rfl, rfl⟩
      (repeat first|refine zA ?_|refine zB ?_|refine zC ?_|refine zD ?_|refine zE ?_|refine zg ?_|refine zo rfl rfl (by first|exact trivial|(simp only[AllP];omega)|(simp(discharger:=omega)only[AllP,cA,cB];omega)|(simp only[AllP,cC,cD,cE,cF,cG];omega)) ?_|refine zn ?_|refine zb ?_|refine ze rfl ?_|refine zr ?_|refine zk ?_|refine zT rfl rfl rfl ?_|refine zU rfl rfl rfl ?_|refine zV rfl rfl rfl ?_|refine zf rfl ?_|refine zt rfl ?_)
      exact ⟨_, rfl, by simp, (gc.turn hon ht).after⟩
  (repeat first|refine zA ?_|refine zB ?_|refine zC ?_|refine zD ?_|refine zE ?_|refine zg ?_|refine zo rfl rfl (by first|exact trivial|(simp only[AllP];omega)|(simp(discharger:=omega)only[AllP,cA,cB];omega)|(simp only[AllP,cC,cD,cE,cF,cG];omega)) ?_|refine zn ?_|refine zb ?_|refine ze rfl ?_|refine zr ?_|refine zk ?_|refine zT rfl rfl rfl ?_|refine zU rfl rfl rfl ?_|refine zV rfl rfl rfl ?_|refine zf rfl ?_|refine zt rfl ?_)
  refine r_if (p := x.d = 10) rfl (fun hd10 => ?_) (fun hd10 => ?_)
  · (repeat first|refine zA ?_|refine zB ?_|refine zC ?_|refine zD ?_|refine zE ?_|refine zg ?_|refine zo rfl rfl (by first|exact trivial|(simp only[AllP];omega)|(simp(discharger:=omega)only[AllP,cA,cB];omega)|(simp only[AllP,cC,cD,cE,cF,cG];omega)) ?_|refine zn ?_|refine zb ?_|refine ze rfl ?_|refine zr ?_|refine zk ?_|refine zT rfl rfl rfl ?_|refine zU rfl rfl rfl ?_|refine zV rfl rfl rfl ?_|refine zf rfl ?_|refine zt rfl ?_)
    refine o_call (KeepO hg1.pi.tab (hg1.pi.slots on hon) (hg1.pi.slots wi hwi) (hg1.two hon hwi)) rfl rfl rfl ?_
    rintro v w3 ⟨rfl, hh⟩
    (repeat first|refine zA ?_|refine zB ?_|refine zC ?_|refine zD ?_|refine zE ?_|refine zg ?_|refine zo rfl rfl (by first|exact trivial|(simp only[AllP];omega)|(simp(discharger:=omega)only[AllP,cA,cB];omega)|(simp only[AllP,cC,cD,cE,cF,cG];omega)) ?_|refine zn ?_|refine zb ?_|refine ze rfl ?_|refine zr ?_|refine zk ?_|refine zT rfl rfl rfl ?_|refine zU rfl rfl rfl ?_|refine zV rfl rfl rfl ?_|refine zf rfl ?_|refine zt rfl ?_)
    refine o_call (num_ret _) rfl rfl rfl ?_
    rintro v w4 ⟨rfl, rfl⟩
    (repeat first|refine zA ?_|refine zB ?_|refine zC ?_|refine zD ?_|refine zE ?_|refine zg ?_|refine zo rfl rfl (by first|exact trivial|(simp only[AllP];omega)|(simp(discharger:=omega)only[AllP,cA,cB];omega)|(simp only[AllP,cC,cD,cE,cF,cG];omega)) ?_|refine zn ?_|refine zb ?_|refine ze rfl ?_|refine zr ?_|refine zk ?_|refine zT rfl rfl rfl ?_|refine zU rfl rfl rfl ?_|refine zV rfl rfl rfl ?_|refine zf rfl ?_|refine zt rfl ?_)
    refine o_call (refCopyS (hh.tab hg1.pi.tab (hg1.pi.slots on hon)) (hh.refs (hg1.pi.slots on hon) (hg1.pi.slots wi hwi) (hg1.two hon hwi))) rfl rfl rfl ?_
    rintro vc w5 hc
    (repeat first|refine zA ?_|refine zB ?_|refine zC ?_|refine zD ?_|refine zE ?_|refine zg ?_|refine zo rfl rfl (by first|exact trivial|(simp only[AllP];omega)|(simp(discharger:=omega)only[AllP,cA,cB];omega)|(simp only[AllP,cC,cD,cE,cF,cG];omega)) ?_|refine zn ?_|refine zb ?_|refine ze rfl ?_|refine zr ?_|refine zk ?_|refine zT rfl rfl rfl ?_|refine zU rfl rfl rfl ?_|refine zV rfl rfl rfl ?_|refine zf rfl ?_|refine zt rfl ?_)
    refine o_call (refKeepO hg1.pi.tab (hg1.pi.slots on hon) (hg1.pi.slots wi hwi) hh hc) rfl rfl rfl ?_
    rintro v w6 ⟨rfl, o', ht⟩
    (repeat first|refine zA ?_|refine zB ?_|refine zC ?_|refine zD ?_|refine zE ?_|refine zg ?_|refine zo rfl rfl (by first|exact trivial|(simp only[AllP];omega)|(simp(discharger:=omega)only[AllP,cA,cB];omega)|(simp only[AllP,cC,cD,cE,cF,cG];omega)) ?_|refine zn ?_|refine zb ?_|refine ze rfl ?_|refine zr ?_|refine zk ?_|refine zT rfl rfl rfl ?_|refine zU rfl rfl rfl ?_|refine zV rfl rfl rfl ?_|refine zf rfl ?_|refine zt rfl ?_)
    exact ⟨_, rfl, by simp, (hg1.turn hon ht).after⟩
  (repeat first|refine zA ?_|refine zB ?_|refine zC ?_|refine zD ?_|refine zE ?_|refine zg ?_|refine zo rfl rfl (by first|exact trivial|(simp only[AllP];omega)|(simp(discharger:=omega)only[AllP,cA,cB];omega)|(simp only[AllP,cC,cD,cE,cF,cG];omega)) ?_|refine zn ?_|refine zb ?_|refine ze rfl ?_|refine zr ?_|refine zk ?_|refine zT rfl rfl rfl ?_|refine zU rfl rfl rfl ?_|refine zV rfl rfl rfl ?_|refine zf rfl ?_|refine zt rfl ?_)
  refine r_if (p := x.d = 11) rfl (fun hd11 => ?_) (fun hd11 => ?_)
  · (repeat first|refine zA ?_|refine zB ?_|refine zC ?_|refine zD ?_|refine zE ?_|refine zg ?_|refine zo rfl rfl (by first|exact trivial|(simp only[AllP];omega)|(simp(discharger:=omega)only[AllP,cA,cB];omega)|(simp only[AllP,cC,cD,cE,cF,cG];omega)) ?_|refine zn ?_|refine zb ?_|refine ze rfl ?_|refine zr ?_|refine zk ?_|refine zT rfl rfl rfl ?_|refine zU rfl rfl rfl ?_|refine zV rfl rfl rfl ?_|refine zf rfl ?_|refine zt rfl ?_)
    refine o_call (DropO hg1.pi.tab (hg1.pi.slots on hon) (hg1.pi.slots wi hwi) (hg1.two hon hwi)) rfl rfl rfl ?_
    rintro v w3 ⟨rfl, hh⟩
    (repeat first|refine zA ?_|refine zB ?_|refine zC ?_|refine zD ?_|refine zE ?_|refine zg ?_|refine zo rfl rfl (by first|exact trivial|(simp only[AllP];omega)|(simp(discharger:=omega)only[AllP,cA,cB];omega)|(simp only[AllP,cC,cD,cE,cF,cG];omega)) ?_|refine zn ?_|refine zb ?_|refine ze rfl ?_|refine zr ?_|refine zk ?_|refine zT rfl rfl rfl ?_|refine zU rfl rfl rfl ?_|refine zV rfl rfl rfl ?_|refine zf rfl ?_|refine zt rfl ?_)
    refine o_call (num_ret _) rfl rfl rfl ?_
    rintro v w4 ⟨rfl, rfl⟩
    (repeat first|refine zA ?_|refine zB ?_|refine zC ?_|refine zD ?_|refine zE ?_|refine zg ?_|refine zo rfl rfl (by first|exact trivial|(simp only[AllP];omega)|(simp(discharger:=omega)only[AllP,cA,cB];omega)|(simp only[AllP,cC,cD,cE,cF,cG];omega)) ?_|refine zn ?_|refine zb ?_|refine ze rfl ?_|refine zr ?_|refine zk ?_|refine zT rfl rfl rfl ?_|refine zU rfl rfl rfl ?_|refine zV rfl rfl rfl ?_|refine zf rfl ?_|refine zt rfl ?_)
    refine o_call (refCopyS (hh.tab hg1.pi.tab (hg1.pi.slots on hon)) (hh.refs (hg1.pi.slots on hon) (hg1.pi.slots wi hwi) (hg1.two hon hwi))) rfl rfl rfl ?_
    rintro vc w5 hc
    (repeat first|refine zA ?_|refine zB ?_|refine zC ?_|refine zD ?_|refine zE ?_|refine zg ?_|refine zo rfl rfl (by first|exact trivial|(simp only[AllP];omega)|(simp(discharger:=omega)only[AllP,cA,cB];omega)|(simp only[AllP,cC,cD,cE,cF,cG];omega)) ?_|refine zn ?_|refine zb ?_|refine ze rfl ?_|refine zr ?_|refine zk ?_|refine zT rfl rfl rfl ?_|refine zU rfl rfl rfl ?_|refine zV rfl rfl rfl ?_|refine zf rfl ?_|refine zt rfl ?_)
    refine o_call (refDropO hg1.pi.tab (hg1.pi.slots on hon) (hg1.pi.slots wi hwi) hh hc) rfl rfl rfl ?_
    rintro v w6 ⟨rfl, o', ht⟩
    (repeat first|refine zA ?_|refine zB ?_|refine zC ?_|refine zD ?_|refine zE ?_|refine zg ?_|refine zo rfl rfl (by first|exact trivial|(simp only[AllP];omega)|(simp(discharger:=omega)only[AllP,cA,cB];omega)|(simp only[AllP,cC,cD,cE,cF,cG];omega)) ?_|refine zn ?_|refine zb ?_|refine ze rfl ?_|refine zr ?_|refine zk ?_|refine zT rfl rfl rfl ?_|refine zU rfl rfl rfl ?_|refine zV rfl rfl rfl ?_|refine zf rfl ?_|refine zt rfl ?_)
    exact ⟨_, rfl, by simp, (hg1.turn hon ht).after⟩
  (repeat first|refine zA ?_|refine zB ?_|refine zC ?_|refine zD ?_|refine zE ?_|refine zg ?_|refine zo rfl rfl (by first|exact trivial|(simp only[AllP];omega)|(simp(discharger:=omega)only[AllP,cA,cB];omega)|(simp only[AllP,cC,cD,cE,cF,cG];omega)) ?_|refine zn ?_|refine zb ?_|refine ze rfl ?_|refine zr ?_|refine zk ?_|refine zT rfl rfl rfl ?_|refine zU rfl rfl rfl ?_|refine zV rfl rfl rfl ?_|refine zf rfl ?_|refine zt rfl ?_)
  refine r_if (p := x.d = 12) rfl (fun hd12 => ?_) (fun hd12 => ?_)
  · (repeat first|refine zA ?_|refine zB ?_|refine zC ?_|refine zD ?_|refine zE ?_|refine zg ?_|refine zo rfl rfl (by first|exact trivial|(simp only[AllP];omega)|(simp(discharger:=omega)only[AllP,cA,cB];omega)|(simp only[AllP,cC,cD,cE,cF,cG];omega)) ?_|refine zn ?_|refine zb ?_|refine ze rfl ?_|refine zr ?_|refine zk ?_|refine zT rfl rfl rfl ?_|refine zU rfl rfl rfl ?_|refine zV rfl rfl rfl ?_|refine zf rfl ?_|refine zt rfl ?_)
    refine o_call (TurnO hg1.pi.tab (hg1.pi.slots on hon) (hg1.pi.slots wi hwi) (hg1.two hon hwi)) rfl rfl rfl ?_
    rintro v w3 ⟨rfl, hh⟩
    (repeat first|refine zA ?_|refine zB ?_|refine zC ?_|refine zD ?_|refine zE ?_|refine zg ?_|refine zo rfl rfl (by first|exact trivial|(simp only[AllP];omega)|(simp(discharger:=omega)only[AllP,cA,cB];omega)|(simp only[AllP,cC,cD,cE,cF,cG];omega)) ?_|refine zn ?_|refine zb ?_|refine ze rfl ?_|refine zr ?_|refine zk ?_|refine zT rfl rfl rfl ?_|refine zU rfl rfl rfl ?_|refine zV rfl rfl rfl ?_|refine zf rfl ?_|refine zt rfl ?_)
    refine o_call (num_ret _) rfl rfl rfl ?_
    rintro v w4 ⟨rfl, rfl⟩
    (repeat first|refine zA ?_|refine zB ?_|refine zC ?_|refine zD ?_|refine zE ?_|refine zg ?_|refine zo rfl rfl (by first|exact trivial|(simp only[AllP];omega)|(simp(discharger:=omega)only[AllP,cA,cB];omega)|(simp only[AllP,cC,cD,cE,cF,cG];omega)) ?_|refine zn ?_|refine zb ?_|refine ze rfl ?_|refine zr ?_|refine zk ?_|refine zT rfl rfl rfl ?_|refine zU rfl rfl rfl ?_|refine zV rfl rfl rfl ?_|refine zf rfl ?_|refine zt rfl ?_)
    refine o_call (refCopyS (hh.tab hg1.pi.tab (hg1.pi.slots on hon)) (hh.refs (hg1.pi.slots on hon) (hg1.pi.slots wi hwi) (hg1.two hon hwi))) rfl rfl rfl ?_
    rintro vc w5 hc
    (repeat first|refine zA ?_|refine zB ?_|refine zC ?_|refine zD ?_|refine zE ?_|refine zg ?_|refine zo rfl rfl (by first|exact trivial|(simp only[AllP];omega)|(simp(discharger:=omega)only[AllP,cA,cB];omega)|(simp only[AllP,cC,cD,cE,cF,cG];omega)) ?_|refine zn ?_|refine zb ?_|refine ze rfl ?_|refine zr ?_|refine zk ?_|refine zT rfl rfl rfl ?_|refine zU rfl rfl rfl ?_|refine zV rfl rfl rfl ?_|refine zf rfl ?_|refine zt rfl ?_)
    refine o_call (refTurnO hg1.pi.tab (hg1.pi.slots on hon) (hg1.pi.slots wi hwi) hh hc) rfl rfl rfl ?_
    rintro v w6 ⟨rfl, o', ht⟩
    (repeat first|refine zA ?_|refine zB ?_|refine zC ?_|refine zD ?_|refine zE ?_|refine zg ?_|refine zo rfl rfl (by first|exact trivial|(simp only[AllP];omega)|(simp(discharger:=omega)only[AllP,cA,cB];omega)|(simp only[AllP,cC,cD,cE,cF,cG];omega)) ?_|refine zn ?_|refine zb ?_|refine ze rfl ?_|refine zr ?_|refine zk ?_|refine zT rfl rfl rfl ?_|refine zU rfl rfl rfl ?_|refine zV rfl rfl rfl ?_|refine zf rfl ?_|refine zt rfl ?_)
    exact ⟨_, rfl, by simp, (hg1.turn hon ht).after⟩
  · (repeat first|refine zA ?_|refine zB ?_|refine zC ?_|refine zD ?_|refine zE ?_|refine zg ?_|refine zo rfl rfl (by first|exact trivial|(simp only[AllP];omega)|(simp(discharger:=omega)only[AllP,cA,cB];omega)|(simp only[AllP,cC,cD,cE,cF,cG];omega)) ?_|refine zn ?_|refine zb ?_|refine ze rfl ?_|refine zr ?_|refine zk ?_|refine zT rfl rfl rfl ?_|refine zU rfl rfl rfl ?_|refine zV rfl rfl rfl ?_|refine zf rfl ?_|refine zt rfl ?_)
    exact ⟨_, rfl, rfl, hg1.after⟩
end
end Go.Vc
