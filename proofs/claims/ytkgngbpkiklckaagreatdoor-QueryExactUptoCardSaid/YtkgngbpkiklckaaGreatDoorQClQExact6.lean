/- Parts of a proof. -/
import Derived.Test.YtkgngbpkiklckaaGreatDoorQClQExact5
set_option maxHeartbeats 12800000
namespace Go.Vc
open Go
variable {P : Program} {n : Nat} {a : Act} {e : Env} {w : World} {K : Jc0} {X : List (Nat × Jc0)} {R : Jc0} {all : List Oper} {G : List Nat} {ro : Ro}
def bindsOn (o : Oper) (j : Nat) : Bool := o.after.toList.any fun e => Region.binds .any e && Nat.beq e.on j
def Qd9 : Nat → List Oper → Bool
 | _, [] => true
 | k, o :: r => (r.isEmpty || r.any (fun q => bindsOn q k)) && o.after.toList.all (fun e => !Region.binds .any e || Nat.blt e.on k) && o.guard.isNone && Qd9 (k + 1) r
def sinkB (L : List Oper) : Bool := Qd9 0 L
theorem Je3 : ∀ (r : List Oper) (k : Nat), Qd9 k r = true → ∀ i o, r[i]? = some o → o.guard = none ∧ (∀ e ∈ o.after, Region.binds .any e = true → e.on < k + i) ∧ (i + 1 < r.length → ∃ i' q, i < i' ∧ r[i']? = some q ∧ ∃ e ∈ q.after, Region.binds .any e = true ∧ e.on = k + i)
 | [], _, _, i, o, h => by simp at h
 | p :: r, k, hs, i, o, h => by
  simp only [Qd9, Bool.and_eq_true, Bool.or_eq_true] at hs
  obtain ⟨⟨⟨h1, h2⟩, h3⟩, h4⟩ := hs
  cases i with
  | zero =>
   simp at h; subst h
   refine ⟨by simpa using h3, fun e he hb => ?_, fun hl => ?_⟩
   ·have := List.all_eq_true.1 h2 e (by simpa using he)
    simp [hb] at this
    simpa using this
   ·rcases h1 with h1 | h1
    ·simp at h1; subst h1; simp at hl
    ·obtain ⟨q, hq, hb⟩ := List.any_eq_true.1 h1
     obtain ⟨j, hj⟩ := List.getElem?_of_mem hq
     obtain ⟨e, he, hbe⟩ := List.any_eq_true.1 hb
     simp only [Bool.and_eq_true] at hbe
     exact ⟨j + 1, q, oM, by simpa using hj, e, by simpa using he, hbe.1, by simpa using Nat.eq_of_beq_eq_true hbe.2⟩
  | succ i =>
   simp at h
   obtain ⟨g1, g2, g3⟩ := Je3 r (k + 1) h4 i o h
   refine ⟨g1, fun e he hb => by have := g2 e he hb; omega, fun hl => ?_⟩
   obtain ⟨i', q, hi, hq, e, he, hb, ho⟩ := g3 (by simpa using hl)
   exact ⟨i' + 1, q, oM, by simpa using hq, e, he, hb, oM⟩
section
variable {l : List Oper} {o : Oper}
theorem all_listed (hS : sinkB (l ++ [o]) = true) {listed : Array Bool} (hc : ∀ (j : Nat) (q : Oper), (l ++ [o])[j]? = some q → listed.getD j false = true → ∀ e ∈ q.after, Region.binds .any e = true → listed.getD e.on false = true)
  (hm : l.length ∈ Region.ready .any (l ++ [o]).toArray listed) : ∀ j, j < l.length → listed.getD j false = true := by
 have key : ∀ d j, l.length - j = d → j < l.length → listed.getD j false = true := by
  intro d
  induction d using Nat.strongRecOn with
  | _ d ih =>
   intro j hd hj
   have hjs : (l ++ [o])[j]? = some l[j] := by rw [List.getElem?_append_left hj]; simp [hj]
   obtain ⟨_, _, h3⟩ := Je3 _ 0 hS j _ hjs
   obtain ⟨i', q, hi, hq, e, he, hb, ho⟩ := h3 (by simp; omega)
   have hlt : i' < (l ++ [o]).length := (List.getElem?_eq_some_iff.1 hq).1
   simp at hlt
   by_cases hi' : i' = l.length
   ·subst hi'
    obtain ⟨_, q', hq', hall⟩ := mem_ready.1 hm
    have : q' = q := by simp only [List.getElem?_toArray] at hq'; rw [hq] at hq'; exact (Option.some.inj hq').symm
    subst this
    have := hall e he hb
    rwa [ho, Nat.zero_add] at this
   ·have hi2 : i' < l.length := oM
    have := ih (l.length - i') oM i' rfl hi2
    have := hc i' q hq this e he hb
    rwa [ho, Nat.zero_add] at this
 exact fun j hj => key _ j rfl hj
theorem any_last (hS : sinkB (l ++ [o]) = true) {C : World → Prop} {Q : Act → Prop} {Q' : Exit → Act → World → Prop} (hlast : ∀ a w, C w → Q a → o.wpIn (FW ro) 0 P a w (fun a w => Q' .normal a w) Q') :
  ∀ (fuel : Nat) (listed listed' : Array Bool) (a : Act) (w : World), C w → (∀ j, j < l.length → ∀ d, listed.getD j d = listed'.getD j d) → listed.size = l.length + 1 → listed'.size = l.length → listed.getD l.length true = false →
   (∀ (j : Nat) (q : Oper), (l ++ [o])[j]? = some q → listed.getD j false = true → ∀ e ∈ q.after, Region.binds .any e = true → listed.getD e.on false = true) →
   wpAnyQIn (FW ro) 0 P .any l.toArray C Q fuel listed' a → wpAnyIn (FW ro) 0 P .any (l ++ [o]).toArray Q' (fuel + 1) listed a w := by
 have hget : ∀ j, j < l.length → (l ++ [o])[j]? = l[j]? := fun j hj => List.getElem?_append_left hj
 have hgetm : (l ++ [o])[l.length]? = some o := sI
 have hready : ∀ (listed listed' : Array Bool), (∀ j, j < l.length → ∀ d, listed.getD j d = listed'.getD j d) → ∀ i, i < l.length → (i ∈ Region.ready .any (l ++ [o]).toArray listed ↔ i ∈ Region.ready .any l.toArray listed') := by
  intro listed listed' hsame i hi
  rw [mem_ready, mem_ready]
  simp only [List.getElem?_toArray, hget i hi, hsame i hi]
  constructor
  ·rintro ⟨h0, q, hq, hall⟩
   refine ⟨h0, q, hq, fun e he hb => ?_⟩
   have hlt := (Je3 _ 0 hS i q (by rw [hget i hi]; exact hq)).2.1 e he hb
   rw [← hsame _ oM]; exact hall e he hb
  ·rintro ⟨h0, q, hq, hall⟩
   refine ⟨h0, q, hq, fun e he hb => ?_⟩
   have hlt := (Je3 _ 0 hS i q (by rw [hget i hi]; exact hq)).2.1 e he hb
   rw [hsame _ oM]; exact hall e he hb
 have inb : ∀ {x : Array Bool} {j : Nat} (d d' : Bool), j < x.size → x.getD j d = x.getD j d' := by
  intro x j d d' hj; simp [Array.getD_eq_getD_getElem?, hj]
 have hall : ∀ (listed listed' : Array Bool), (∀ j, j < l.length → ∀ d, listed.getD j d = listed'.getD j d) → listed'.size = l.length → Region.ready .any l.toArray listed' = [] → ∀ j, j < l.length → listed.getD j false = true := by
  intro listed listed' hsame hs2 hr j
  induction j using Nat.strongRecOn with
  | _ j ih =>
   intro hj
   cases hb : listed.getD j false with
   | true => rfl
   | false =>
    exfalso
    have : j ∈ Region.ready .any l.toArray listed' := by
     refine mem_ready.2 ⟨?_, l[j], by simp [hj], fun e he hbd => ?_⟩
     ·rw [← hb, hsame j hj]; exact inb _ _ oM
     ·have hlt := (Je3 _ 0 hS j l[j] (by rw [hget j hj]; simp [hj])).2.1 e he hbd
      rw [← hsame _ oM]
      exact ih e.on oM oM
    rw [hr] at this; cases this
 have hmready : ∀ (listed : Array Bool), listed.getD l.length true = false → (∀ j, j < l.length → listed.getD j false = true) → l.length ∈ Region.ready .any (l ++ [o]).toArray listed := by
  intro listed hm hal
  refine mem_ready.2 ⟨hm, o, sI, fun e he hb => hal _ ?_⟩
  have := (Je3 _ 0 hS _ o hgetm).2.1 e he hb
  omega
 have hnil : ∀ (listed : Array Bool), (∀ j, j < l.length + 1 → listed.getD j false = true) → listed.size = l.length + 1 → Region.ready .any (l ++ [o]).toArray listed = [] := by
  intro listed hal hs
  cases hr : Region.ready .any (l ++ [o]).toArray listed with
  | nil => rfl
  | cons x xs =>
   have hx : x ∈ Region.ready .any (l ++ [o]).toArray listed := by rw [hr]; simp
   obtain ⟨h0, q, hq, _⟩ := mem_ready.1 hx
   have hlt : x < l.length + 1 := by
    have := (Array.getElem?_eq_some_iff.1 hq).1
    simpa using this
   have := hal x hlt
   rw [inb false true oM] at this
   rw [this] at h0; cases h0
 have hfin : ∀ (listed : Array Bool) (fuel : Nat) (a : Act) (w : World), C w → Q a → listed.size = l.length + 1 → (∀ j, j < l.length → listed.getD j false = true) →
   wpOpIn (FW ro) 0 P (l ++ [o]).toArray Q' l.length (wpAnyIn (FW ro) 0 P .any (l ++ [o]).toArray Q' fuel (listed.setIfInBounds l.length true)) a w := by
  intro listed fuel a w hw hq hs hal
  unfold wpOpIn
  have hg : ((l ++ [o]).toArray)[l.length]? = some o := sI
  rw [hg]
  dsimp only
  have hgd := (Je3 _ 0 hS _ o hgetm).1
  have hwant : Region.wanted o (yielded (l ++ [o]).toArray a.tmps) = true := by simp [Region.wanted, hgd]
  rw [if_pos hwant]
  refine Oper.wpIn_mono ?_ (hlast a w hw hq)
  intro a w hq
  have hr := hnil (listed.setIfInBounds l.length true) (fun j hj => by
   by_cases hjm : j = l.length
   ·subst hjm; simp [hs]
   ·exact getD_set_true (hal j oM)) (by simp [hs])
  cases fuel with
  | zero => exact ⟨hr, hq⟩
  | succ fuel => exact ⟨fun _ => hq, fun i hi => by rw [hr] at hi; cases hi⟩
 have hmem : ∀ (listed : Array Bool) (i : Nat), i ∈ Region.ready .any (l ++ [o]).toArray listed → i < l.length ∨ i = l.length := by
  intro listed i hi
  obtain ⟨_, q, hq, _⟩ := mem_ready.1 hi
  have := (Array.getElem?_eq_some_iff.1 hq).1
  simp at this; omega
 have hnil' : ∀ (listed listed' : Array Bool), (∀ j, j < l.length → ∀ d, listed.getD j d = listed'.getD j d) → listed'.size = l.length → (∀ j, j < l.length → listed.getD j false = true) → Region.ready .any l.toArray listed' = [] := by
  intro listed listed' hsame hs2 hal
  cases hr : Region.ready .any l.toArray listed' with
  | nil => rfl
  | cons x xs =>
   have hx : x ∈ Region.ready .any l.toArray listed' := by rw [hr]; simp
   obtain ⟨h0, q, hq, _⟩ := mem_ready.1 hx
   have hlt : x < l.length := by have := (Array.getElem?_eq_some_iff.1 hq).1; simpa using this
   have := hal x hlt
   rw [hsame x hlt, inb false true oM] at this
   rw [this] at h0; cases h0
 intro fuel
 induction fuel with
 | zero =>
  intro listed listed' a w hw hsame hs1 hs2 hm hc h
  have hal := hall listed listed' hsame hs2 h.1
  refine ⟨fun hr => ?_, fun i hi => ?_⟩
  ·have := hmready listed hm hal; rw [hr] at this; cases this
  ·rcases hmem listed i hi with hlt | rfl
   ·have := (hready listed listed' hsame i hlt).1 hi; rw [h.1] at this; cases this
   ·exact hfin listed 0 a w hw h.2 hs1 hal
 | succ fuel ih =>
  intro listed listed' a w hw hsame hs1 hs2 hm hc h
  refine ⟨fun hr => ?_, fun i hi => ?_⟩
  ·have hr' : Region.ready .any l.toArray listed' = [] := by
    cases hr' : Region.ready .any l.toArray listed' with
    | nil => rfl
    | cons x xs =>
     have hx : x ∈ Region.ready .any l.toArray listed' := by rw [hr']; simp
     have hlt : x < l.length := by obtain ⟨_, q, hq, _⟩ := mem_ready.1 hx; have := (Array.getElem?_eq_some_iff.1 hq).1; simpa using this
     have := (hready listed listed' hsame x hlt).2 hx
     rw [hr] at this; cases this
   have := hmready listed hm (hall listed listed' hsame hs2 hr')
   rw [hr] at this; cases this
  ·rcases hmem listed i hi with hlt | rfl
   ·have hi' := (hready listed listed' hsame i hlt).1 hi
    have h1 := h.2 i hi'
    unfold qOpIn at h1
    unfold wpOpIn
    have hg : (l ++ [o]).toArray[i]? = l.toArray[i]? := by simp only [List.getElem?_toArray]; exact hget i hlt
    rw [hg]
    cases hq : l.toArray[i]? with
    | none => rw [List.getElem?_toArray] at hq; simp [hlt] at hq
    | some q =>
     rw [hq] at h1
     dsimp only at h1 ⊢
     have hqs : (l ++ [o])[i]? = some q := by rw [hget i hlt]; simpa using hq
     have hgd := (Je3 _ 0 hS i q hqs).1
     have hw1 : ∀ (A : Array Oper), Region.wanted q (yielded A a.tmps) = true := fun A => by simp [Region.wanted, hgd]
     rw [if_pos (hw1 _)] at h1 ⊢
     refine Ju3 hw (fun a' w' hw' hk => ?_) h1.2
     refine ih (listed.setIfInBounds i true) (listed'.setIfInBounds i true) a' w' hw' (fun j hj d => ?_) (by simp [hs1]) (by simp [hs2]) ?_ ?_ hk
     ·by_cases hij : i = j
      ·subst hij; simp [Array.getD_eq_getD_getElem?, hs1, hs2, hlt]; omega
      ·rw [getD_set_ne d hij, getD_set_ne d hij]; exact hsame j hj d
     ·rw [getD_set_ne true oM]; exact hm
     ·intro j q' hq' hl e he hb
      by_cases hij : i = j
      ·subst hij
       have : q' = q := by rw [hqs] at hq'; exact (Option.some.inj hq').symm
       subst this
       obtain ⟨_, q2, hq2, hal⟩ := mem_ready.1 hi
       have : q2 = q' := by simp only [List.getElem?_toArray] at hq2; rw [hqs] at hq2; exact (Option.some.inj hq2).symm
       subst this
       exact getD_set_true (hal e he hb)
      ·rw [getD_set_ne false hij] at hl
       exact getD_set_true (hc j q' hq' hl e he hb)
   ·have hal := all_listed hS hc hi
    exact hfin listed (fuel + 1) a w hw (h.1 (hnil' listed listed' hsame hs2 hal)) hs1 hal
theorem r_lastC {id : Nat} {L : List Oper} (C : World → Prop) (hm : P.follows .mixedOrders = true) (hL : L = l ++ [o]) (hB : Region.lexB .any l.toArray = true) (hS : sinkB (l ++ [o]) = true) (hC : C { w with drawn := w.drawn + 1 })
  (h : QOps P n l [] C (fun e' => ∀ w', C w' → Ops ro P n [o] [] K [o] e' w') l e) : Wp ro P n (.region id L.toArray true) K X R e w := by
 subst hL
 intro ds a ha
 have h := Jo1 (ro := ro) _ _ (h ds a ha)
 simp only [Region.lexB, Bool.and_eq_true] at hB
 have h1 := wpAnyQIn_lex (F := FW ro) (n := 0) (C := C) (md := .any) hB.1 l 0 (Array.replicate l.toArray.size false) a sI (by simpa using hB.2) h
 refine wpIn_region_any hm ?_
 have e1 : (l ++ [o]).toArray.size = l.length + 1 := sI
 rw [e1]
 refine any_last hS (C := C) (fun a w hw hq => ?_) l.length (Array.replicate (l.length + 1) false) (Array.replicate l.length false) a _ hC ?_ sI sI sI ?_ (by simpa using h1)
 ·obtain ⟨e', hf, hk⟩ := hq
  have := hk w hw X R ds a hf
  unfold wpListIn at this
  have hgd : o.guard = none := (Je3 _ 0 hS l.length o sI).1
  rw [if_pos (by simp [Region.wanted, hgd])] at this
  exact Oper.wpIn_mono (fun a w h => h) this
 ·intro j hj d
  rw [Array.getD_eq_getD_getElem?, Array.getD_eq_getD_getElem?, Array.getElem?_replicate, Array.getElem?_replicate, if_pos oM, if_pos hj]
 ·intro j q hq hl
  simp [Array.getD_eq_getD_getElem?, Array.getElem?_replicate] at hl
  split at hl <;> simp at hl
theorem r_last {id : Nat} {L : List Oper} (l : List Oper) (o : Oper) (hm : P.follows .mixedOrders = true) (hL : L = l ++ [o]) (hB : Region.lexB .any l.toArray = true) (hS : sinkB (l ++ [o]) = true)
  (h : QOps P n l [] (Sm w) (fun e' => ∀ w', Sm w w' → Ops ro P n [o] [] K [o] e' w') l e) : Wp ro P n (.region id L.toArray true) K X R e w :=
 r_lastC (Sm w) hm hL hB hS (Sm.drew w) h
theorem Je9 {id : Nat} {L : List Oper} (hm : P.follows .mixedOrders = true) (hL : L.getLast? = some o) (hB : Region.lexB .any L.dropLast.toArray = true) (hS : sinkB L = true)
  (h : QOps P n L.dropLast [] (Sm w) (fun e' => ∀ w', Sm w w' → Ops ro P n [o] [] K [o] e' w') L.dropLast e) : Wp ro P n (.region id L.toArray true) K X R e w := by
 have e1 : L = L.dropLast ++ [o] := by
  have hne : L ≠ [] := by rintro rfl; simp at hL
  have h1 := List.dropLast_concat_getLast hne
  have h2 := List.getLast?_eq_some_getLast hne
  rw [hL] at h2
  rw [← Option.some.inj h2] at h1
  exact h1.symm
 exact r_last L.dropLast o hm e1 hB (by rw [← e1]; exact hS) h
theorem Kp.after {S S' : List Nat} {w0 w w' : World} (h0 : Kp S w0 w) (h : Kp S' w w') (hs : ∀ b, b ∈ S' → b ∈ S ∨ w0.heap.size ≤ b) : Kp S w0 w' :=
 ⟨h.os.trans h0.os, h.tape.trans h0.tape, h.output.trans h0.output, Nat.le_trans h0.size h.size, fun k hk hS => (h.at_ k (Nat.lt_of_lt_of_le hk h0.size) (fun hm => by rcases hs k hm with h | h; exact hS h; omega)).trans (h0.at_ k hk hS)⟩
end
theorem run_append0 {t ty T : TypeId} {i : TypeInfo} (hu : P.underlying t = some (.slice T)) (hi : P.info? T = some i) {ad ay : Option Addr} {k cap cy : Nat} (hk : k ≤ cap) :
  (Builtin.append_ #[t, t] ty #[.slice ad k cap, .slice ay 0 cy]).run P w = .ok (.slice ad k cap) w := by
 cases ad <;> cases ay <;> simp [Builtin.append_, run_underlying hu, sizeOf, typeInfo, hi, Builtin.lenOf, Builtin.firstCells, hk, storeCells, loadCells, loadCellsFrom]
theorem Qf5 {dst : Option Tmp} {ty : TypeId} {pos : String} {after : Array Edge} {g : Option (Nat × Bool)} {l : List Oper} {t : TypeId} {x y : Operand} {T : TypeId} {i : TypeInfo} {ad ay : Option Addr} {k cap cy : Nat}
  (hx : ev e x = .slice ad k cap) (hy : ev e y = .slice ay 0 cy) (hk : k ≤ cap) (hu : P.underlying t = some (.slice T)) (hi : P.info? T = some i) (hd : dOk n dst = true) (hm : may all G e g = some true)
  (kk : Ops ro P n all G K l (put e dst (.slice ad k cap)) w) : Ops ro P n all G K (⟨dst, .call ⟨.builtin .append, #[x, y], #[t, t]⟩, ty, pos, after, g⟩ :: l) e w := by
 refine Jb5 (v := .slice ad k cap) (w' := w) hd hm ?_ kk
 simp only [execOp, resolve, Sem.run_bind, Sem.run_pure, Result.andThen_ok, invoke, builtin, List.map_toArray, List.map_cons, List.map_nil, hx, hy, run_append0 (ty := ty) (cy := cy) hu hi hk]
theorem Jf0 {dst : Option Tmp} {ty : TypeId} {pos : String} {after : Array Edge} {g : Option (Nat × Bool)} {l : List Oper} {t T : TypeId} {i : TypeInfo}
  (hu : P.underlying t = some (.slice T)) (hi : P.info? T = some i) (hd : dOk n dst = true) (hm : may all G e g = some true)
  (k : ∀ b w', b = w.heap.size → Upd w b (.cells ⟨[]⟩ T (0, 0)) w' → Ops ro P n all G K l (put e dst (.slice (some ⟨b, 0, none⟩) 0 0)) w') : Ops ro P n all G K (⟨dst, .buildSlice t 0 #[], ty, pos, after, g⟩ :: l) e w := by
 refine Jb5 (v := .slice (some ⟨w.heap.size, 0, none⟩) 0 0) (w' := w.alloc (.cells ⟨[]⟩ T)) hd hm ?_ (k _ _ rfl (Je2 w _))
 simp [execOp, Instr.buildSlice, run_underlying hu, sizeOf, typeInfo, hi, Instr.fill, newRow, run_newObj]
 have e0 : Array.map (fun (_ : Nat) => (default : Value)) (Array.range 0) = ⟨[]⟩ := sI
 rw [e0]
end Go.Vc

namespace Go.Vc
open Go
variable {P : Program} {n : Nat} {a : Act} {e : Env} {w : World} {K : Jc0} {X : List (Nat × Jc0)} {R : Jc0} {G : List Nat} {ro : Ro}
section
variable {L : Array Oper} {Fl : World → Prop} {Q : Act → World → Prop} {ds : List Deferred}
def panQ (ro : Ro) (ds : List Deferred) : Exit → Act → World → Prop
 | .panic c, a, w => ∃ v, c = [{ v, recovered := false }] ∧ a.defers = ds ∧ ro.pan v w
 | _, _, _ => False
theorem panQ_lift {ds : List Deferred} (x : Exit) (a : Act) (w : World) (h : panQ ro ds x a w) : lift ro n ds K X R x a w := by cases x <;> first | exact h | exact h.elim
theorem put_defers (a : Act) (d : Option Tmp) (v : Value) : (a.put d v).defers = a.defers := by cases d <;> rfl
theorem panQ_put {ds : List Deferred} {x : Exit} {d : Option Tmp} {v : Value} (h : panQ ro ds x (a.put d v) w) : panQ ro ds x a w := by
 cases x <;> first | (obtain ⟨u, h1, h2, h3⟩ := h; exact ⟨u, h1, (put_defers a d v).symm.trans h2, h3⟩) | exact h.elim
def opF (ds : List Deferred) (ro : Ro) (P : Program) (L : Array Oper) (i : Nat) (K : Act → World → Prop) (a : Act) (w : World) : Prop :=
 match L[i]? with
 | none => K a w
 | some o => if Region.wanted o (yielded L a.tmps) then o.wpIn (FW ro) 0 P a w K (panQ ro ds) else K (a.put o.dst undef) w
def Jw0 (L : Array Oper) (i : Nat) : Bool :=
 Nat.beq (i + 1) L.size && (List.range i).all fun k => (List.range (i + 1)).any fun m => Nat.blt k m && match L[m]? with
  | some q => bindsOn q k
  | none => false
def Ju6 (L : Array Oper) (listed : Array Bool) : Prop := ∀ (j : Nat) (q : Oper), L[j]? = some q → listed.getD j false = true → ∀ e ∈ q.after, Region.binds .any e = true → listed.getD e.on false = true
theorem Ju6.set {listed : Array Bool} (h : Ju6 L listed) {i : Nat} (hi : i ∈ Region.ready .any L listed) : Ju6 L (listed.setIfInBounds i true) := by
 intro j q hq hl e he hb
 by_cases hij : i = j
 ·subst hij
  obtain ⟨_, q', hq', hall⟩ := mem_ready.1 hi
  rw [hq] at hq'; cases hq'
  exact getD_set_true (hall e he hb)
 ·rw [getD_set_ne false hij] at hl
  exact getD_set_true (h j q hq hl e he hb)
theorem Qf7 {listed : Array Bool} (hc : Ju6 L listed) {i : Nat} (hi : i ∈ Region.ready .any L listed) (hl : Jw0 L i = true) : ∀ k, k < i → listed.getD k false = true := by
 unfold Jw0 at hl
 rw [Bool.and_eq_true, List.all_eq_true] at hl
 have key : ∀ d k, i - k = d → k < i → listed.getD k false = true := by
  intro d
  induction d using Nat.strongRecOn with
  | _ d ih =>
   intro k hd hk
   obtain ⟨m, hm, hmk⟩ := List.any_eq_true.1 (hl.2 k (by simpa using hk))
   have hm : m < i + 1 := by simpa using hm
   rw [Bool.and_eq_true] at hmk
   have hlt : k < m := by simpa [Nat.blt_eq] using hmk.1
   cases hq : L[m]? with
   | none => rw [hq] at hmk; simp at hmk
   | some q =>
    rw [hq] at hmk
    obtain ⟨e, he, hbe⟩ := List.any_eq_true.1 hmk.2
    rw [Bool.and_eq_true] at hbe
    have hon : e.on = k := Nat.eq_of_beq_eq_true hbe.2
    rw [← hon]
    by_cases hmi : m = i
    ·subst hmi
     obtain ⟨_, q', hq', hall⟩ := mem_ready.1 hi
     rw [hq] at hq'; cases hq'
     exact hall e (by simpa using he) hbe.1
    ·exact hc m q hq (ih (i - m) oM m rfl oM) e (by simpa using he) hbe.1
 exact fun k hk => key _ k rfl hk
theorem last_size {i : Nat} (hl : Jw0 L i = true) : i + 1 = L.size := by
 unfold Jw0 at hl
 rw [Bool.and_eq_true] at hl
 exact Nat.eq_of_beq_eq_true hl.1
def anyF (ds : List Deferred) (ro : Ro) (P : Program) (L : Array Oper) (Fl : World → Prop) (Q : Act → World → Prop) : Nat → Array Bool → Act → World → Prop
 | 0, listed, a, w => Region.ready .any L listed = [] ∧ Q a w
 | fuel + 1, listed, a, w => (Region.ready .any L listed = [] → Q a w) ∧ ∀ i ∈ Region.ready .any L listed,
   opF ds ro P L i (fun a' w' => (Jw0 L i = true ∨ Fl w') ∧ anyF ds ro P L Fl Q fuel (listed.setIfInBounds i true) a' w') a w
theorem strictIn {o : Oper} {a : Act} {w : World} {K K' : Act → World → Prop} {Q' : Exit → Act → World → Prop} (hk : ∀ a w, K a w → K' a w) (hZ : ∀ x a w, panQ ro ds x a w → Q' x a w) (h : o.wpIn (FW ro) 0 P a w K (panQ ro ds)) : o.wpIn (FW ro) 0 P a w K' Q' := by
 refine ⟨h.1, ?_⟩
 have h := h.2
 generalize (o.semAt (FW ro).round a.eval).run P w = r at h ⊢
 exact Qh2 hk hZ r h
theorem laxIn {o : Oper} {a : Act} {w : World} {K K' : Act → World → Prop} {Q' : Exit → Act → World → Prop} (hk : ∀ a w, K a w → K' a w) (hq : ∀ c a w, Q' (.panic c) a w → panQ ro ds (.panic c) a w) (ho : ∀ a w, ¬ Q' .outgrown a w) (h : o.wpIn (FW ro) 0 P a w K Q') : o.wpIn (FW ro) 0 P a w K' (panQ ro ds) := by
 refine ⟨h.1, ?_⟩
 have h := h.2
 generalize (o.semAt (FW ro).round a.eval).run P w = r at h ⊢
 unfold Oper.uponIn at h ⊢
 split at h <;> first | exact hk _ _ h | exact h.elim | skip
 ·refine ⟨h.1, h.2.mono ?_⟩
  intro x w'' hx
  cases x with
  | returned v => exact hk _ _ hx
  | panicked c => exact hq _ _ _ hx
  | outgrown => obtain ⟨a, w, hx⟩ := hx; exact (ho _ _ hx).elim
 ·exact ⟨h.1, h.2.mono fun v w'' hx => hk _ _ hx⟩
 ·refine ⟨h.1, h.2.mono ?_⟩
  intro x w'' hx
  cases x with
  | returned v => exact hk _ _ hx
  | panicked c => exact hq _ _ _ hx
  | outgrown => obtain ⟨a, w, hx⟩ := hx; exact (ho _ _ hx).elim
 ·exact hq _ _ _ h
theorem Qc6 {i : Nat} {K K' : Act → World → Prop} (hk : ∀ a w, K a w → K' a w) (h : opF ds ro P L i K a w) : opF ds ro P L i K' a w := by
 unfold opF at h ⊢
 split
 ·rename_i ho; simp only [ho] at h; exact hk _ _ h
 ·rename_i o ho
  simp only [ho] at h
  split
  ·rename_i hw; simp only [hw, if_true] at h; exact strictIn hk (fun _ _ _ h => h) h
  ·rename_i hw; simp only [hw] at h; exact hk _ _ h
theorem Qg0 {Q' : Exit → Act → World → Prop} (hZ : ∀ x a w, panQ ro ds x a w → Q' x a w) (hQ : ∀ a w, Q a w → Q' .normal a w) : ∀ (fuel : Nat) (listed : Array Bool) (a : Act) (w : World), anyF ds ro P L Fl Q fuel listed a w → wpAnyIn (FW ro) 0 P .any L Q' fuel listed a w
 | 0, _, _, _, h => ⟨h.1, hQ _ _ h.2⟩
 | fuel + 1, listed, a, w, h => ⟨fun h0 => hQ _ _ (h.1 h0), fun i hi => by
   have h := h.2 i hi
   unfold opF at h
   unfold wpOpIn
   split
   ·rename_i ho; simp only [ho] at h; exact Qg0 hZ hQ _ _ _ _ h.2
   ·rename_i o ho
    simp only [ho] at h
    split
    ·rename_i hw; simp only [hw, if_true] at h; exact strictIn (fun a w hk => Qg0 hZ hQ _ _ _ _ hk.2) hZ h
    ·rename_i hw; simp only [hw] at h; exact ⟨fun _ _ => trivial, Qg0 hZ hQ _ _ _ _ h.2⟩⟩
def YF (P : Program) (L : Array Oper) (Fl : World → Prop) (o : Oper) (v : Value) (a : Act) : Prop :=
 (Region.wanted o (yielded L a.tmps) = true ∧ ∀ w, Fl w → (execOp a.eval o).run P w = .ok (.value v) w) ∨ (Region.wanted o (yielded L a.tmps) = false ∧ v = undef)
theorem YF.opF {i : Nat} {o : Oper} {v : Value} {K : Act → World → Prop} (hi : L[i]? = some o) (hy : YF P L Fl o v a) (hw : Fl w) (h : K (a.put o.dst v) w) : opF ds ro P L i K a w := by
 unfold Vc.opF
 simp only [hi]
 rcases hy with ⟨hwt, hv⟩ | ⟨hwt, rfl⟩
 ·simp only [hwt, if_true]
  refine ⟨fun _ _ => trivial, ?_⟩
  show o.uponIn _ _ _ _ _ _ ((o.semAt ro.round a.eval).run P w)
  rw [Jk9 (hv w hw) (by intro d hd; cases hd)]
  exact h
 ·simp only [hwt, Bool.false_eq_true, if_false]
  exact h
theorem semAt_put (o : Oper) (hs : ∀ cs b, o.op ≠ .select cs b) (hd : ∀ c, o.op ≠ .defer c) (a : Act) (dst : Option Tmp) (v : Value) (h : ∀ d, dst = some d → d ∉ o.looksAt L) : o.semAt ro.round (a.put dst v).eval = o.semAt ro.round a.eval := by
 rw [Oper.semAt_eq ro.round _ o hd, Oper.semAt_eq ro.round _ o hd, execOp_put o hs a dst v h]
theorem YF.keep {o oj : Oper} {v : Value} {a : Act} (hs : ∀ cs b, o.op ≠ .select cs b) (h3 : ∀ d, oj.dst = some d → d ∉ o.looksAt L) (hy : YF P L Fl o v a) (u : Value) : YF P L Fl o v (a.put oj.dst u) := by
 unfold YF at hy ⊢
 rw [execOp_put o hs a oj.dst u h3, wanted_put o a oj.dst u h3]
 exact hy
theorem opF_put {j : Nat} {oi oj : Oper} {v : Value} (hj : L[j]? = some oj) (hap : oi.apart L oj = true) (hsi : ∀ cs b, oi.op ≠ .select cs b) (hsj : ∀ cs b, oj.op ≠ .select cs b) (hdj : ∀ c, oj.op ≠ .defer c)
  {K : Act → World → Prop} {a : Act} {w : World} (hy : YF P L Fl oi v a) (h : opF ds ro P L j K (a.put oi.dst v) w) : opF ds ro P L j (fun a' w' => YF P L Fl oi v a' ∧ K (a'.put oi.dst v) w') a w := by
 obtain ⟨h1, h2, h3⟩ := Oper.apart_spec hap
 unfold opF at *
 simp only [hj] at *
 rw [wanted_put oj a oi.dst v h1] at h
 split
 ·rename_i hw
  simp only [hw, if_true] at h
  refine ⟨fun _ _ => trivial, ?_⟩
  have h := h.2
  rw [show (FW ro).round = ro.round from rfl] at h ⊢
  rw [semAt_put oj hsj hdj a oi.dst v h1] at h
  generalize (oj.semAt ro.round a.eval).run P w = r at h ⊢
  cases r with
  | ok x w' =>
   cases x <;> simp only [Oper.uponIn] at h ⊢
   case value u => exact ⟨hy.keep hsi h3 u, by rw [← Act.put_comm a v u h2]; exact h⟩
   case skip => exact ⟨hy.keep hsi h3 _, by rw [← Act.put_comm a v undef h2]; exact h⟩
   case defer d =>
    refine ⟨YF.keep (a := { a with defers := d :: a.defers }) hsi h3 hy _, ?_⟩
    rw [← Act.put_comm _ v undef h2, ← Act.put_defers]
    exact h
   case enter f args =>
    refine ⟨h.1, CallsIn.mono h.2 fun e w'' he => ?_⟩
    cases e with
    | returned u => exact ⟨hy.keep hsi h3 u, by rw [← Act.put_comm a v u h2]; exact he⟩
    | panicked c => exact panQ_put he
    | outgrown => exact he
   case row row args => exact ⟨h.1, RowsIn.mono h.2 fun u w'' he => ⟨hy.keep hsi h3 u, by rw [← Act.put_comm a v u h2]; exact he⟩⟩
   case round l f tmps assign body =>
    refine ⟨h.1, RoundIn.mono h.2 fun e w'' he => ?_⟩
    cases e with
    | returned u => exact ⟨hy.keep hsi h3 u, by rw [← Act.put_comm a v u h2]; exact he⟩
    | panicked c => exact panQ_put he
    | outgrown => exact he
  | halt x w' =>
   cases x <;> simp only [Oper.uponIn] at h ⊢
   exact panQ_put h
 ·rename_i hw
  simp only [hw] at h
  exact ⟨hy.keep hsi h3 _, by rw [← Act.put_comm a v undef h2]; exact h⟩
def Ql8 (L : Array Oper) : Bool := L.all fun o => match o.op with | .select .. => false | .defer _ => false | _ => true
theorem Ql9 (h : Ql8 L = true) (j : Nat) (o : Oper) (ho : L[j]? = some o) : (∀ cs b, o.op ≠ .select cs b) ∧ ∀ c, o.op ≠ .defer c := by
 have := Array.all_eq_true_iff_forall_mem.1 h o (Array.mem_of_getElem? ho)
 refine ⟨fun cs b heq => ?_, fun c heq => ?_⟩ <;> simp [heq] at this
theorem Qm0 (hP : Ql8 L = true) {i : Nat} {oi : Oper} {v : Value} (hi : L[i]? = some oi) :
  ∀ (fuel : Nat) (listed : Array Bool) (a : Act) (w : World), listed.size = L.size → Ju6 L listed → Fl w →
   (∀ j oj, L[j]? = some oj → j ≠ i → listed.getD j true = false → (∀ e ∈ oj.after, Region.binds .any e = true → e.on ≠ i) → oi.apart L oj = true) →
   i ∈ Region.ready .any L listed → YF P L Fl oi v a →
   anyF ds ro P L Fl Q fuel (listed.setIfInBounds i true) (a.put oi.dst v) w → anyF ds ro P L Fl Q (fuel + 1) listed a w := by
 intro fuel
 induction fuel with
 | zero =>
  intro listed a w _ _ hw _ hr hy H
  refine ⟨fun h => (by rw [h] at hr; cases hr), fun j hj => ?_⟩
  by_cases hji : j = i
  ·subst hji; exact hy.opF hi hw ⟨.inr hw, H⟩
  ·have := ready_mono hj hji
   rw [H.1] at this
   cases this
 | succ fuel ih =>
  intro listed a w hsz hcl hw hfree hr hy H
  refine ⟨fun h => (by rw [h] at hr; cases hr), fun j hj => ?_⟩
  by_cases hji : j = i
  ·subst hji; exact hy.opF hi hw ⟨.inr hw, H⟩
  ·have h1 := H.2 j (ready_mono hj hji)
   obtain ⟨hjun, oj, hoj, hall⟩ := mem_ready.1 hj
   have hi0 := (mem_ready.1 hr).1
   have hilt : i < L.size := (Array.getElem?_eq_some_iff.1 hi).1
   have hi0' : listed.getD i false = false := by
    simp [Array.getD_eq_getD_getElem?, hsz, hilt] at hi0 ⊢; exact hi0
   have hnot : ∀ e ∈ oj.after, Region.binds .any e = true → e.on ≠ i := fun e he hb heq => by
    have h1 := hall e he hb
    rw [heq, hi0'] at h1; cases h1
   have hpi := Ql9 hP i oi hi
   have hpj := Ql9 hP j oj hoj
   have h2 := opF_put hoj (hfree j oj hoj hji hjun hnot) hpi.1 hpj.1 hpj.2 hy h1
   have hfree' : ∀ k ok, L[k]? = some ok → k ≠ i → (listed.setIfInBounds j true).getD k true = false →
     (∀ e ∈ ok.after, Region.binds .any e = true → e.on ≠ i) → oi.apart L ok = true := fun k ok hk hki hun hno => by
    refine hfree k ok hk hki ?_ hno
    by_cases hjk : j = k
    ·subst hjk; exact hjun
    ·rw [getD_set_ne true hjk] at hun; exact hun
   refine Qc6 (fun a' w' h3 => ?_) h2
   obtain ⟨hy', hfl, h4⟩ := h3
   have hx : anyF ds ro P L Fl Q fuel ((listed.setIfInBounds j true).setIfInBounds i true) (a'.put oi.dst v) w' := by
    rw [Array.setIfInBounds_comm _ _ hji]; exact h4
   by_cases hfw : Fl w'
   ·exact ⟨.inr hfw, ih (listed.setIfInBounds j true) a' w' (by simp [hsz]) (hcl.set hj) hfw hfree' (ready_mono hr (Ne.symm hji)) hy' hx⟩
   ·exfalso
    rcases hfl with hfl | hfl
    ·have h1 := last_size hfl
     have h2 := Qf7 hcl hj hfl i oM
     rw [hi0'] at h2; cases h2
    ·exact hfw hfl
def mixW (ds : List Deferred) (ro : Ro) (P : Program) (L : Array Oper) (Fl : World → Prop) (Q : Act → World → Prop) : List (Nat × Bool) → Act → World → Prop
 | [], a, w => Q a w
 | (i, b) :: r, a, w => match L[i]? with
  | none => False
  | some o => if b then opF ds ro P L i (fun a w => (Jw0 L i = true ∨ Fl w) ∧ mixW ds ro P L Fl Q r a w) a w
   else ∃ v, YF P L Fl o v a ∧ mixW ds ro P L Fl Q r (a.put o.dst v) w
def onlyB : List Nat → Nat → Bool
 | [j], i => Nat.beq j i
 | _, _ => false
def mixB (L : Array Oper) : List (Nat × Bool) → Array Bool → Bool
 | [], listed => (Region.ready .any L listed).isEmpty
 | (i, false) :: r, listed => (Region.ready .any L listed).contains i && Region.free .any L listed i && mixB L r (listed.setIfInBounds i true)
 | (i, true) :: r, listed => onlyB (Region.ready .any L listed) i && mixB L r (listed.setIfInBounds i true)
theorem onlyB_eq {l : List Nat} {i : Nat} (h : onlyB l i = true) : l = [i] := by
 match l, h with
 | [j], h => rw [Nat.eq_of_beq_eq_true h]
theorem mix_any (hP : Ql8 L = true) : ∀ (ord : List (Nat × Bool)) (listed : Array Bool) (a : Act) (w : World), listed.size = L.size → Ju6 L listed → (Fl w ∨ ord = []) → mixB L ord listed = true → mixW ds ro P L Fl Q ord a w → anyF ds ro P L Fl Q ord.length listed a w
 | [], listed, a, w, _, _, _, hB, h => ⟨by simpa [mixB] using hB, h⟩
 | (i, b) :: r, listed, a, w, hsz, hcl, hw, hB, h => by
  have hwf : Fl w := hw.resolve_right sI
  unfold mixW at h
  cases ho : L[i]? with
  | none => simp only [ho] at h
  | some o =>
   simp only [ho] at h
   cases b with
   | false =>
    simp only [mixB, Bool.and_eq_true] at hB
    obtain ⟨⟨hr, hf⟩, hB'⟩ := hB
    simp only [Bool.false_eq_true, if_false] at h
    obtain ⟨v, hy, hK⟩ := h
    exact Qm0 hP ho r.length listed a w hsz hcl hwf (Region.free_spec ho hf) (by simpa using hr) hy (mix_any hP r _ _ w (by simp [hsz]) (hcl.set (by simpa using hr)) (.inl hwf) hB' hK)
   | true =>
    simp only [mixB, Bool.and_eq_true] at hB
    obtain ⟨hr, hB'⟩ := hB
    have hr := onlyB_eq hr
    simp only [if_true] at h
    refine ⟨fun h0 => (by rw [h0] at hr; cases hr), fun j hj => ?_⟩
    rw [hr] at hj
    have hji : j = i := by simpa using hj
    subst hji
    refine Qc6 (fun a' w' h3 => ⟨h3.1, ?_⟩) h
    rcases h3.1 with hl | hf
    ·-- nothing is left
     have hnil : r = [] := by
      cases r with
      | nil => rfl
      | cons p r =>
       exfalso
       obtain ⟨k, bk⟩ := p
       have hk : k ∈ Region.ready .any L (listed.setIfInBounds j true) := by
        cases bk with
        | false => simp only [mixB, Bool.and_eq_true] at hB'; simpa using hB'.1.1
        | true => simp only [mixB, Bool.and_eq_true] at hB'; rw [onlyB_eq hB'.1]; simp
       obtain ⟨hk0, ok, hok, _⟩ := mem_ready.1 hk
       have hjr : j ∈ Region.ready .any L listed := by rw [hr]; simp
       have hklt : k < L.size := (Array.getElem?_eq_some_iff.1 hok).1
       have hkj : k ≠ j := by
        rintro rfl
        simp [Array.getD_eq_getD_getElem?, hsz, hklt] at hk0
       have h1 := last_size hl
       have h5 := Qf7 hcl hjr hl k oM
       rw [getD_set_ne true (Ne.symm hkj)] at hk0
       simp [Array.getD_eq_getD_getElem?, hsz, hklt] at hk0 h5
       rw [h5] at hk0; cases hk0
     exact mix_any hP r _ a' w' (by simp [hsz]) (hcl.set (by rw [hr]; simp)) (.inr hnil) hB' h3.2
    ·exact mix_any hP r _ a' w' (by simp [hsz]) (hcl.set (by rw [hr]; simp)) (.inl hf) hB' h3.2
end
def MOps (ro : Ro) (P : Program) (n : Nat) (all : List Oper) (_G : List Nat) (Fl : World → Prop) (K : Jc0) (ord : List (Nat × Bool)) (e : Env) (w : World) : Prop :=
 ∀ ds a, Fit n ds a e → mixW ds ro P all.toArray Fl (fun a w => ∃ e, Fit n ds a e ∧ K e w) ord a w
variable {all : List Oper} {Fl : World → Prop} {r : List (Nat × Bool)}
theorem Jo6 {id : Nat} (Fl : World → Prop) (ord : List (Nat × Bool)) (hm : P.follows .mixedOrders = true) (hP : Ql8 all.toArray = true) (hB : mixB all.toArray ord (Array.replicate all.toArray.size false) = true) (hl : Nat.beq ord.length all.toArray.size = true) (hw : Fl { w with drawn := w.drawn + 1 })
  (h : MOps ro P n all [] Fl K ord e { w with drawn := w.drawn + 1 }) : Wp ro P n (.region id all.toArray true) K X R e w := by
 intro ds a ha
 refine wpIn_region_any hm ?_
 have h1 := mix_any (ro := ro) hP ord (Array.replicate all.toArray.size false) a { w with drawn := w.drawn + 1 } sI (fun j q hq hl => by
  rw [Array.getD_eq_getD_getElem?, Array.getElem?_replicate] at hl
  split at hl <;> simp at hl) (.inl hw) hB (h ds a ha)
 rw [Nat.eq_of_beq_eq_true hl] at h1
 exact Qg0 panQ_lift (fun a w hq => hq) _ _ _ _ h1
theorem x_nil (h : K e w) : MOps ro P n all G Fl K [] e w := fun _ _ ha => ⟨e, ha, h⟩
theorem Jh2 {i : Nat} {o : Oper} (ho : nthO all i = some o) (h : Ops ro P n all G (fun e w => (Jw0 all.toArray i = true ∨ Fl w) ∧ MOps ro P n all G Fl K r e w) [o] e w) : MOps ro P n all G Fl K ((i, true) :: r) e w := by
 intro ds a ha
 have hoi : all.toArray[i]? = some o := by rw [List.getElem?_toArray, ← Js8]; exact ho
 unfold mixW
 simp only [hoi, if_true]
 have h1 := h [] (fun _ _ => False) ds a ha
 unfold wpListIn at h1
 unfold opF
 simp only [hoi]
 split
 ·rename_i hw
  rw [if_pos hw] at h1
  refine laxIn (fun a w hk => ?_) (fun c a w hq => hq) (fun a w hq => hq) h1
  obtain ⟨e', hf, hfl, hk⟩ := hk
  exact ⟨hfl, hk ds a hf⟩
 ·rename_i hw
  rw [if_neg hw] at h1
  obtain ⟨e', hf, hfl, hk⟩ := h1.2
  exact ⟨hfl, hk ds _ hf⟩
theorem Qf0 {i : Nat} {o : Oper} {v : Value} (ho : nthO all i = some o) (hd : dOk n o.dst = true) (hm : may all G e o.guard = some true)
  (h : ∀ w, Fl w → (execOp (ev e) o).run P w = .ok (.value v) w) (k : MOps ro P n all G Fl K r (put e o.dst v) w) : MOps ro P n all G Fl K ((i, false) :: r) e w := by
 intro ds a ha
 have hoi : all.toArray[i]? = some o := by rw [List.getElem?_toArray, ← Js8]; exact ho
 unfold mixW
 simp only [hoi]
 exact ⟨v, .inl ⟨Jd0 ha hm, fun w hw => by rw [ha.eval]; exact h w hw⟩, k ds _ (ha.put _ _ hd)⟩
theorem x_passes {i : Nat} {o : Oper} {b : Bool} (ho : nthO all i = some o) (hd : dOk n o.dst = true) (hm : may all G e o.guard = some false) (hb : b = true → Fl w)
  (k : MOps ro P n all G Fl K r (put e o.dst undef) w) : MOps ro P n all G Fl K ((i, b) :: r) e w := by
 intro ds a ha
 have hoi : all.toArray[i]? = some o := by rw [List.getElem?_toArray, ← Js8]; exact ho
 unfold mixW
 simp only [hoi]
 cases b with
 | false => exact ⟨undef, .inr ⟨Jd0 ha hm, rfl⟩, k ds _ (ha.put _ _ hd)⟩
 | true =>
  simp only [if_true]
  unfold opF
  simp only [hoi, Jd0 ha hm]
  exact ⟨.inr (hb rfl), k ds _ (ha.put _ _ hd)⟩
def runM (P : Program) (n : Nat) (all : List Oper) (G : List Nat) : List (Nat × Bool) → List Prop → Env → List Prop × Env × List (Nat × Bool)
 | [], cs, e => (cs, e, [])
 | (i, true) :: r, cs, e => (cs, e, (i, true) :: r)
 | (i, false) :: r, cs, e =>
  match nthO all i with
  | some ⟨dst, op, ty, pos, after, guard⟩ =>
   (match dOk n dst, may all G e guard with
   | true, some true => (match Jr2 P e op with
    | some (none, v) => runM P n all G r cs (put e dst v)
    | some (some c, v) => runM P n all G r (c :: cs) (put e dst v)
    | none => (cs, e, (i, false) :: r))
   | true, some false => runM P n all G r cs (put e dst undef)
   | _, _ => (cs, e, (i, false) :: r))
  | none => (cs, e, (i, false) :: r)
theorem x_run' : ∀ (l : List (Nat × Bool)) (cs : List Prop) (e : Env), AllP (runM P n all G l cs e).1 →
  AllP cs ∧ (MOps ro P n all G Fl K (runM P n all G l cs e).2.2 (runM P n all G l cs e).2.1 w → MOps ro P n all G Fl K l e w)
 | [], cs, e, h => ⟨h, fun k => k⟩
 | (i, true) :: l, cs, e, h => ⟨h, fun k => k⟩
 | (i, false) :: l, cs, e, h => by
  revert h
  rw [runM]
  cases ho : nthO all i with
  | none => exact fun h => ⟨h, fun k => k⟩
  | some o =>
   obtain ⟨dst, op, ty, pos, after, guard⟩ := o
   dsimp only
   cases hd : dOk n dst with
   | false => exact fun h => ⟨h, fun k => k⟩
   | true =>
    cases hm : may all G e guard with
    | none => exact fun h => ⟨h, fun k => k⟩
    | some m =>
     cases m with
     | false =>
      intro h
      have ih := x_run' l cs _ h
      exact ⟨ih.1, fun k => x_passes ho hd hm (fun h => by cases h) (ih.2 k)⟩
     | true =>
      dsimp only
      cases hp : Jr2 P e op with
      | none => exact fun h => ⟨h, fun k => k⟩
      | some rr =>
       obtain ⟨c, v⟩ := rr
       cases c with
       | none =>
        intro h
        have ih := x_run' l cs _ h
        exact ⟨ih.1, fun k => Qf0 ho hd hm (fun _ _ => Jf1 (o := ⟨dst, op, ty, pos, after, guard⟩) hp trivial) (ih.2 k)⟩
       | some c =>
        intro h
        have ih := x_run' l (c :: cs) _ h
        exact ⟨ih.1.tail, fun k => Qf0 ho hd hm (fun _ _ => Jf1 (o := ⟨dst, op, ty, pos, after, guard⟩) hp ih.1.head) (ih.2 k)⟩
def ltM : List (Nat × Bool) → List (Nat × Bool) → Bool
 | [], _ :: _ => true
 | _ :: l, _ :: r => ltM l r
 | _, [] => false
theorem x_run {cs : List Prop} {e' : Env} {l l' : List (Nat × Bool)} (h : runM P n all G l [] e = (cs, e', l')) (_hl : ltM l' l = true) (hc : AllP cs) (k : MOps ro P n all G Fl K l' e' w) : MOps ro P n all G Fl K l e w := by
 have := x_run' (ro := ro) (P := P) (n := n) (all := all) (G := G) (Fl := Fl) (K := K) (w := w) l [] e (by rw [h]; exact hc)
 rw [h] at this
 exact this.2 k
theorem x_load {i : Nat} {dst : Option Tmp} {ty : TypeId} {pos : String} {after : Array Edge} {g : Option (Nat × Bool)} {t : TypeId} {x : Operand} {b off : Nat} {d : TypeDesc} {v : Value} (ho : nthO all i = some ⟨dst, .load t x, ty, pos, after, g⟩)
  (hp : ev e x = .pointer (some ⟨b, off, none⟩)) (hc : ∀ w, Fl w → w.cell? ⟨b, off, none⟩ = some v) (hu : P.underlying t = some d) (ha : aggD d = false) (hd : dOk n dst = true) (hm : may all G e g = some true)
  (k : MOps ro P n all G Fl K r (put e dst v) w) : MOps ro P n all G Fl K ((i, false) :: r) e w :=
 Qf0 ho hd hm (fun w hw => Jz2 hp hu ha (hc w hw)) k
theorem Zy {i : Nat} {dst : Option Tmp} {ty : TypeId} {pos : String} {after : Array Edge} {g : Option (Nat × Bool)} {t : TypeId} {x : Operand} {b off : Nat} {d : TypeDesc} {v : Value} (ho : nthO all i = some ⟨dst, .load t x, ty, pos, after, g⟩) (hp : ev e x = .pointer (some ⟨b, off, none⟩)) (hc : ∀ w, Fl w → w.cell? ⟨b, off, none⟩ = some v) (k : MOps ro P n all G Fl K r (put e dst v) w) (hu : P.underlying t = some d := by exact rfl) (ha : aggD d = false := by exact rfl) (hd : dOk n dst = true := by exact rfl) (hm : may all G e g = some true := by exact rfl) : MOps ro P n all G Fl K ((i, false) :: r) e w := x_load ho hp hc hu ha hd hm k
theorem Qn2 {i : Nat} {b0 : Bool} {o : Oper} (ho : nthO all i = some o) (j : Nat) (want : Bool) (q : Option Bool) (_hg : o.guard = some (j, want)) (_hv : gval' all e j = q) (_hG : memN j G = false) (h : MOps ro P n all (j :: G) Fl K ((i, b0) :: r) e w) : MOps ro P n all G Fl K ((i, b0) :: r) e w := h
theorem MOps.monoK {K' : Jc0} {ord : List (Nat × Bool)} (h : MOps ro P n all G Fl K ord e w) (hk : ∀ e w, K e w → K' e w) : MOps ro P n all G Fl K' ord e w := by
 have key : ∀ {ds : List Deferred} {Q Q' : Act → World → Prop} (hq : ∀ a w, Q a w → Q' a w) (ord : List (Nat × Bool)) (a : Act) (w : World), mixW ds ro P all.toArray Fl Q ord a w → mixW ds ro P all.toArray Fl Q' ord a w := by
  intro ds Q Q' hq ord
  induction ord with
  | nil => exact fun a w h => hq a w h
  | cons p r ih =>
   intro a w h
   obtain ⟨i, b⟩ := p
   unfold mixW at h ⊢
   split
   ·rename_i ho; simp only [ho] at h
   ·rename_i o ho
    simp only [ho] at h
    cases b with
    | true => simp only [if_true] at h ⊢; exact Qc6 (fun a w hk => ⟨hk.1, ih a w hk.2⟩) h
    | false => simp only [Bool.false_eq_true, if_false] at h ⊢; obtain ⟨v, hy, hk⟩ := h; exact ⟨v, hy, ih _ _ hk⟩
 intro ds a ha
 exact key (fun a w ⟨e, hf, hk'⟩ => ⟨e, hf, hk e w hk'⟩) _ _ _ (h ds a ha)
abbrev xo := @x_run
abbrev xn := @x_nil
end Go.Vc

