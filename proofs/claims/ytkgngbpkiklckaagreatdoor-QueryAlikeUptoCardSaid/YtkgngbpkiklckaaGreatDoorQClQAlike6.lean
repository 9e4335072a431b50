/- A region that draws its order, all of whose operations only read but the last one, which waits for all of them. -/
import Derived.Test.YtkgngbpkiklckaaGreatDoorQClQAlike5
namespace Go.Vc
open Go
variable {P : Program} {n : Nat} {a : Act} {e : Env} {w : World} {K : EPost} {X : List (Nat × EPost)} {R : EPost} {all : List Oper} {G : List Nat} {ro : Ro}

def bindsOn (o : Oper) (j : Nat) : Bool := o.after.toList.any fun e => Region.binds .any e && Nat.beq e.on j
/-- each operation is awaited by a later one, none waits for a later one, none is guarded -/
def sinkFrom : Nat → List Oper → Bool
  | _, [] => true
  | k, o :: r => (r.isEmpty || r.any (fun q => bindsOn q k)) && o.after.toList.all (fun e => !Region.binds .any e || Nat.blt e.on k) && o.guard.isNone && sinkFrom (k + 1) r
def sinkB (L : List Oper) : Bool := sinkFrom 0 L

theorem sinkFrom_spec : ∀ (r : List Oper) (k : Nat), sinkFrom k r = true → ∀ i o, r[i]? = some o → o.guard = none ∧ (∀ e ∈ o.after, Region.binds .any e = true → e.on < k + i) ∧ (i + 1 < r.length → ∃ i' q, i < i' ∧ r[i']? = some q ∧ ∃ e ∈ q.after, Region.binds .any e = true ∧ e.on = k + i)
  | [], _, _, i, o, h => by simp at h
  | p :: r, k, hs, i, o, h => by
    simp only [sinkFrom, Bool.and_eq_true, Bool.or_eq_true] at hs
    obtain ⟨⟨⟨h1, h2⟩, h3⟩, h4⟩ := hs
    cases i with
    | zero =>
      simp at h; subst h
      refine ⟨by simpa using h3, fun e he hb => ?_, fun hl => ?_⟩
      · have := List.all_eq_true.1 h2 e (by simpa using he)
        simp [hb] at this
        simpa using this
      · rcases h1 with h1 | h1
        · simp at h1; subst h1; simp at hl
        · obtain ⟨q, hq, hb⟩ := List.any_eq_true.1 h1
          obtain ⟨j, hj⟩ := List.getElem?_of_mem hq
          obtain ⟨e, he, hbe⟩ := List.any_eq_true.1 hb
          simp only [Bool.and_eq_true] at hbe
          exact ⟨j + 1, q, by omega, by simpa using hj, e, by simpa using he, hbe.1, by simpa using Nat.eq_of_beq_eq_true hbe.2⟩
    | succ i =>
      simp at h
      obtain ⟨g1, g2, g3⟩ := sinkFrom_spec r (k + 1) h4 i o h
      refine ⟨g1, fun e he hb => by have := g2 e he hb; omega, fun hl => ?_⟩
      obtain ⟨i', q, hi, hq, e, he, hb, ho⟩ := g3 (by simpa using hl)
      exact ⟨i' + 1, q, by omega, by simpa using hq, e, he, hb, by omega⟩

section
variable {l : List Oper} {o : Oper}
theorem all_listed (hS : sinkB (l ++ [o]) = true) {listed : Array Bool} (hc : ∀ (j : Nat) (q : Oper), (l ++ [o])[j]? = some q → listed.getD j false = true → ∀ e ∈ q.after, Region.binds .any e = true → listed.getD e.on false = true)
    (hm : l.length ∈ Region.ready .any (l ++ [o]).toArray listed) : ∀ j, j < l.length → listed.getD j false = true := by
  have key : ∀ d j, l.length - j = d → j < l.length → listed.getD j false = true := by
    intro d
    induction d using Nat.strongRecOn with
    | _ d ih =>
      intro j hd hj
      have hjs : (l ++ [o])[j]? = some l[j] := by rw [List.getElem?_append_left hj]; simp [hj]
      obtain ⟨_, _, h3⟩ := sinkFrom_spec _ 0 hS j _ hjs
      obtain ⟨i', q, hi, hq, e, he, hb, ho⟩ := h3 (by simp; omega)
      have hlt : i' < (l ++ [o]).length := (List.getElem?_eq_some_iff.1 hq).1
      simp at hlt
      by_cases hi' : i' = l.length
      · subst hi'
        obtain ⟨_, q', hq', hall⟩ := mem_ready.1 hm
        have : q' = q := by simp only [List.getElem?_toArray] at hq'; rw [hq] at hq'; exact (Option.some.inj hq').symm
        subst this
        have := hall e he hb
        rwa [ho, Nat.zero_add] at this
      · have hi2 : i' < l.length := by omega
        have := ih (l.length - i') (by omega) i' rfl hi2
        have := hc i' q hq this e he hb
        rwa [ho, Nat.zero_add] at this
  exact fun j hj => key _ j rfl hj

theorem any_last (hS : sinkB (l ++ [o]) = true) {C : World → Prop} {Q : Act → Prop} {Q' : Exit → Act → World → Prop} (hlast : ∀ a w, C w → Q a → o.wpIn (FW ro) 0 P a w (fun a w => Q' .normal a w) Q') :
    ∀ (fuel : Nat) (listed listed' : Array Bool) (a : Act) (w : World), C w → (∀ j, j < l.length → ∀ d, listed.getD j d = listed'.getD j d) → listed.size = l.length + 1 → listed'.size = l.length → listed.getD l.length true = false →
      (∀ (j : Nat) (q : Oper), (l ++ [o])[j]? = some q → listed.getD j false = true → ∀ e ∈ q.after, Region.binds .any e = true → listed.getD e.on false = true) →
      wpAnyQIn (FW ro) 0 P .any l.toArray C Q fuel listed' a → wpAnyIn (FW ro) 0 P .any (l ++ [o]).toArray Q' (fuel + 1) listed a w := by
  have hget : ∀ j, j < l.length → (l ++ [o])[j]? = l[j]? := fun j hj => List.getElem?_append_left hj
  have hgetm : (l ++ [o])[l.length]? = some o := by simp
  -- ready below the last is the same
  have hready : ∀ (listed listed' : Array Bool), (∀ j, j < l.length → ∀ d, listed.getD j d = listed'.getD j d) → ∀ i, i < l.length → (i ∈ Region.ready .any (l ++ [o]).toArray listed ↔ i ∈ Region.ready .any l.toArray listed') := by
    intro listed listed' hsame i hi
    rw [mem_ready, mem_ready]
    simp only [List.getElem?_toArray, hget i hi, hsame i hi]
    constructor
    · rintro ⟨h0, q, hq, hall⟩
      refine ⟨h0, q, hq, fun e he hb => ?_⟩
      have hlt := (sinkFrom_spec _ 0 hS i q (by rw [hget i hi]; exact hq)).2.1 e he hb
      rw [← hsame _ (by omega)]; exact hall e he hb
    · rintro ⟨h0, q, hq, hall⟩
      refine ⟨h0, q, hq, fun e he hb => ?_⟩
      have hlt := (sinkFrom_spec _ 0 hS i q (by rw [hget i hi]; exact hq)).2.1 e he hb
      rw [hsame _ (by omega)]; exact hall e he hb
  have inb : ∀ {x : Array Bool} {j : Nat} (d d' : Bool), j < x.size → x.getD j d = x.getD j d' := by
    intro x j d d' hj; simp [Array.getD_eq_getD_getElem?, hj]
  have hall : ∀ (listed listed' : Array Bool), (∀ j, j < l.length → ∀ d, listed.getD j d = listed'.getD j d) → listed'.size = l.length → Region.ready .any l.toArray listed' = [] → ∀ j, j < l.length → listed.getD j false = true := by
    intro listed listed' hsame hs2 hr j
    induction j using Nat.strongRecOn with
    | _ j ih =>
      intro hj
      cases hb : listed.getD j false with
      | true => rfl
      | false =>
        exfalso
        have : j ∈ Region.ready .any l.toArray listed' := by
          refine mem_ready.2 ⟨?_, l[j], by simp [hj], fun e he hbd => ?_⟩
          · rw [← hb, hsame j hj]; exact inb _ _ (by omega)
          · have hlt := (sinkFrom_spec _ 0 hS j l[j] (by rw [hget j hj]; simp [hj])).2.1 e he hbd
            rw [← hsame _ (by omega)]
            exact ih e.on (by omega) (by omega)
        rw [hr] at this; cases this
  have hmready : ∀ (listed : Array Bool), listed.getD l.length true = false → (∀ j, j < l.length → listed.getD j false = true) → l.length ∈ Region.ready .any (l ++ [o]).toArray listed := by
    intro listed hm hal
    refine mem_ready.2 ⟨hm, o, by simp, fun e he hb => hal _ ?_⟩
    have := (sinkFrom_spec _ 0 hS _ o hgetm).2.1 e he hb
    omega
  have hnil : ∀ (listed : Array Bool), (∀ j, j < l.length + 1 → listed.getD j false = true) → listed.size = l.length + 1 → Region.ready .any (l ++ [o]).toArray listed = [] := by
    intro listed hal hs
    cases hr : Region.ready .any (l ++ [o]).toArray listed with
    | nil => rfl
    | cons x xs =>
      have hx : x ∈ Region.ready .any (l ++ [o]).toArray listed := by rw [hr]; simp
      obtain ⟨h0, q, hq, _⟩ := mem_ready.1 hx
      have hlt : x < l.length + 1 := by
        have := (Array.getElem?_eq_some_iff.1 hq).1
        simpa using this
      have := hal x hlt
      rw [inb false true (by omega)] at this
      rw [this] at h0; cases h0
  have hfin : ∀ (listed : Array Bool) (fuel : Nat) (a : Act) (w : World), C w → Q a → listed.size = l.length + 1 → (∀ j, j < l.length → listed.getD j false = true) →
      wpOpIn (FW ro) 0 P (l ++ [o]).toArray Q' l.length (wpAnyIn (FW ro) 0 P .any (l ++ [o]).toArray Q' fuel (listed.setIfInBounds l.length true)) a w := by
    intro listed fuel a w hw hq hs hal
    unfold wpOpIn
    have hg : ((l ++ [o]).toArray)[l.length]? = some o := by simp
    rw [hg]
    dsimp only
    have hgd := (sinkFrom_spec _ 0 hS _ o hgetm).1
    have hwant : Region.wanted o (yielded (l ++ [o]).toArray a.tmps) = true := by simp [Region.wanted, hgd]
    rw [if_pos hwant]
    refine Oper.wpIn_mono ?_ (hlast a w hw hq)
    intro a w hq
    have hr := hnil (listed.setIfInBounds l.length true) (fun j hj => by
      by_cases hjm : j = l.length
      · subst hjm; simp [hs]
      · exact getD_set_true (hal j (by omega))) (by simp [hs])
    cases fuel with
    | zero => exact ⟨hr, hq⟩
    | succ fuel => exact ⟨fun _ => hq, fun i hi => by rw [hr] at hi; cases hi⟩
  have hmem : ∀ (listed : Array Bool) (i : Nat), i ∈ Region.ready .any (l ++ [o]).toArray listed → i < l.length ∨ i = l.length := by
    intro listed i hi
    obtain ⟨_, q, hq, _⟩ := mem_ready.1 hi
    have := (Array.getElem?_eq_some_iff.1 hq).1
    simp at this; omega
  have hnil' : ∀ (listed listed' : Array Bool), (∀ j, j < l.length → ∀ d, listed.getD j d = listed'.getD j d) → listed'.size = l.length → (∀ j, j < l.length → listed.getD j false = true) → Region.ready .any l.toArray listed' = [] := by
    intro listed listed' hsame hs2 hal
    cases hr : Region.ready .any l.toArray listed' with
    | nil => rfl
    | cons x xs =>
      have hx : x ∈ Region.ready .any l.toArray listed' := by rw [hr]; simp
      obtain ⟨h0, q, hq, _⟩ := mem_ready.1 hx
      have hlt : x < l.length := by have := (Array.getElem?_eq_some_iff.1 hq).1; simpa using this
      have := hal x hlt
      rw [hsame x hlt, inb false true (by omega)] at this
      rw [this] at h0; cases h0
  intro fuel
  induction fuel with
  | zero =>
    intro listed listed' a w hw hsame hs1 hs2 hm hc h
    have hal := hall listed listed' hsame hs2 h.1
    refine ⟨fun hr => ?_, fun i hi => ?_⟩
    · have := hmready listed hm hal; rw [hr] at this; cases this
    · rcases hmem listed i hi with hlt | rfl
      · have := (hready listed listed' hsame i hlt).1 hi; rw [h.1] at this; cases this
      · exact hfin listed 0 a w hw h.2 hs1 hal
  | succ fuel ih =>
    intro listed listed' a w hw hsame hs1 hs2 hm hc h
    refine ⟨fun hr => ?_, fun i hi => ?_⟩
    · have hr' : Region.ready .any l.toArray listed' = [] := by
        cases hr' : Region.ready .any l.toArray listed' with
        | nil => rfl
        | cons x xs =>
          have hx : x ∈ Region.ready .any l.toArray listed' := by rw [hr']; simp
          have hlt : x < l.length := by obtain ⟨_, q, hq, _⟩ := mem_ready.1 hx; have := (Array.getElem?_eq_some_iff.1 hq).1; simpa using this
          have := (hready listed listed' hsame x hlt).2 hx
          rw [hr] at this; cases this
      have := hmready listed hm (hall listed listed' hsame hs2 hr')
      rw [hr] at this; cases this
    · rcases hmem listed i hi with hlt | rfl
      · have hi' := (hready listed listed' hsame i hlt).1 hi
        have h1 := h.2 i hi'
        unfold qOpIn at h1
        unfold wpOpIn
        have hg : (l ++ [o]).toArray[i]? = l.toArray[i]? := by simp only [List.getElem?_toArray]; exact hget i hlt
        rw [hg]
        cases hq : l.toArray[i]? with
        | none => rw [List.getElem?_toArray] at hq; simp [hlt] at hq
        | some q =>
          rw [hq] at h1
          dsimp only at h1 ⊢
          have hqs : (l ++ [o])[i]? = some q := by rw [hget i hlt]; simpa using hq
          have hgd := (sinkFrom_spec _ 0 hS i q hqs).1
          have hw1 : ∀ (A : Array Oper), Region.wanted q (yielded A a.tmps) = true := fun A => by simp [Region.wanted, hgd]
          rw [if_pos (hw1 _)] at h1 ⊢
          refine wpIn_of_quietR hw (fun a' w' hw' hk => ?_) h1.2
          refine ih (listed.setIfInBounds i true) (listed'.setIfInBounds i true) a' w' hw' (fun j hj d => ?_) (by simp [hs1]) (by simp [hs2]) ?_ ?_ hk
          · by_cases hij : i = j
            · subst hij; simp [Array.getD_eq_getD_getElem?, hs1, hs2, hlt]; omega
            · rw [getD_set_ne d hij, getD_set_ne d hij]; exact hsame j hj d
          · rw [getD_set_ne true (by omega)]; exact hm
          · intro j q' hq' hl e he hb
            by_cases hij : i = j
            · subst hij
              have : q' = q := by rw [hqs] at hq'; exact (Option.some.inj hq').symm
              subst this
              obtain ⟨_, q2, hq2, hal⟩ := mem_ready.1 hi
              have : q2 = q' := by simp only [List.getElem?_toArray] at hq2; rw [hqs] at hq2; exact (Option.some.inj hq2).symm
              subst this
              exact getD_set_true (hal e he hb)
            · rw [getD_set_ne false hij] at hl
              exact getD_set_true (hc j q' hq' hl e he hb)
      · have hal := all_listed hS hc hi
        exact hfin listed (fuel + 1) a w hw (h.1 (hnil' listed listed' hsame hs2 hal)) hs1 hal

/-- A DRAWN REGION: all but the last operation only read, the last waits for all. -/
theorem r_lastC {id : Nat} {L : List Oper} (C : World → Prop) (hm : P.follows .mixedOrders = true) (hL : L = l ++ [o]) (hB : Region.lexB .any l.toArray = true) (hS : sinkB (l ++ [o]) = true) (hC : C { w with drawn := w.drawn + 1 })
    (h : QOps P n l [] C (fun e' => ∀ w', C w' → Ops ro P n [o] [] K [o] e' w') l e) : Wp ro P n (.region id L.toArray true) K X R e w := by
  subst hL
  intro ds a ha
  have h := wpQuietIn_of (ro := ro) _ _ (h ds a ha)
  simp only [Region.lexB, Bool.and_eq_true] at hB
  have h1 := wpAnyQIn_lex (F := FW ro) (n := 0) (C := C) (md := .any) hB.1 l 0 (Array.replicate l.toArray.size false) a (by simp) (by simpa using hB.2) h
  refine wpIn_region_any hm ?_
  have e1 : (l ++ [o]).toArray.size = l.length + 1 := by simp
  rw [e1]
  refine any_last hS (C := C) (fun a w hw hq => ?_) l.length (Array.replicate (l.length + 1) false) (Array.replicate l.length false) a _ hC ?_ (by simp) (by simp) (by simp) ?_ (by simpa using h1)
  · obtain ⟨e', hf, hk⟩ := hq
    have := hk w hw X R ds a hf
    unfold wpListIn at this
    have hgd : o.guard = none := (sinkFrom_spec _ 0 hS l.length o (by simp)).1
    rw [if_pos (by simp [Region.wanted, hgd])] at this
    exact Oper.wpIn_mono (fun a w h => h) this
  · intro j hj d
    rw [Array.getD_eq_getD_getElem?, Array.getD_eq_getD_getElem?, Array.getElem?_replicate, Array.getElem?_replicate, if_pos (by omega), if_pos hj]
  · intro j q hq hl
    simp [Array.getD_eq_getD_getElem?, Array.getElem?_replicate] at hl
    split at hl <;> simp at hl
theorem r_last {id : Nat} {L : List Oper} (l : List Oper) (o : Oper) (hm : P.follows .mixedOrders = true) (hL : L = l ++ [o]) (hB : Region.lexB .any l.toArray = true) (hS : sinkB (l ++ [o]) = true)
    (h : QOps P n l [] (Sm w) (fun e' => ∀ w', Sm w w' → Ops ro P n [o] [] K [o] e' w') l e) : Wp ro P n (.region id L.toArray true) K X R e w :=
  r_lastC (Sm w) hm hL hB hS (Sm.drew w) h
theorem r_lastL {id : Nat} {L : List Oper} (hm : P.follows .mixedOrders = true) (hL : L.getLast? = some o) (hB : Region.lexB .any L.dropLast.toArray = true) (hS : sinkB L = true)
    (h : QOps P n L.dropLast [] (Sm w) (fun e' => ∀ w', Sm w w' → Ops ro P n [o] [] K [o] e' w') L.dropLast e) : Wp ro P n (.region id L.toArray true) K X R e w := by
  have e1 : L = L.dropLast ++ [o] := by
    have hne : L ≠ [] := by rintro rfl; simp at hL
    have h1 := List.dropLast_concat_getLast hne
    have h2 := List.getLast?_eq_some_getLast hne
    rw [hL] at h2
    rw [← Option.some.inj h2] at h1
    exact h1.symm
  exact r_last L.dropLast o hm e1 hB (by rw [← e1]; exact hS) h
theorem Kp.after {S S' : List Nat} {w0 w w' : World} (h0 : Kp S w0 w) (h : Kp S' w w') (hs : ∀ b, b ∈ S' → b ∈ S ∨ w0.heap.size ≤ b) : Kp S w0 w' :=
  ⟨h.os.trans h0.os, h.tape.trans h0.tape, h.output.trans h0.output, Nat.le_trans h0.size h.size, fun k hk hS => (h.at_ k (Nat.lt_of_lt_of_le hk h0.size) (fun hm => by rcases hs k hm with h | h; exact hS h; omega)).trans (h0.at_ k hk hS)⟩
end
/-! ### append of nothing -/
theorem run_append0 {t ty T : TypeId} {i : TypeInfo} (hu : P.underlying t = some (.slice T)) (hi : P.info? T = some i) {ad ay : Option Addr} {k cap cy : Nat} (hk : k ≤ cap) :
    (Builtin.append_ #[t, t] ty #[.slice ad k cap, .slice ay 0 cy]).run P w = .ok (.slice ad k cap) w := by
  cases ad <;> cases ay <;> simp [Builtin.append_, run_underlying hu, sizeOf, typeInfo, hi, Builtin.lenOf, Builtin.firstCells, hk, storeCells, loadCells, loadCellsFrom]
theorem o_append0 {dst : Option Tmp} {ty : TypeId} {pos : String} {after : Array Edge} {g : Option (Nat × Bool)} {l : List Oper} {t : TypeId} {x y : Operand} {T : TypeId} {i : TypeInfo} {ad ay : Option Addr} {k cap cy : Nat}
    (hx : ev e x = .slice ad k cap) (hy : ev e y = .slice ay 0 cy) (hk : k ≤ cap) (hu : P.underlying t = some (.slice T)) (hi : P.info? T = some i) (hd : dOk n dst = true) (hm : may all G e g = some true)
    (kk : Ops ro P n all G K l (put e dst (.slice ad k cap)) w) : Ops ro P n all G K (⟨dst, .call ⟨.builtin .append, #[x, y], #[t, t]⟩, ty, pos, after, g⟩ :: l) e w := by
  refine ops_does (v := .slice ad k cap) (w' := w) hd hm ?_ kk
  simp only [execOp, resolve, Sem.run_bind, Sem.run_pure, Result.andThen_ok, invoke, builtin, List.map_toArray, List.map_cons, List.map_nil, hx, hy, run_append0 (ty := ty) (cy := cy) hu hi hk]
/-- an empty slice literal: a block of no cells -/
theorem o_buildSlice0 {dst : Option Tmp} {ty : TypeId} {pos : String} {after : Array Edge} {g : Option (Nat × Bool)} {l : List Oper} {t T : TypeId} {i : TypeInfo}
    (hu : P.underlying t = some (.slice T)) (hi : P.info? T = some i) (hd : dOk n dst = true) (hm : may all G e g = some true)
    (k : ∀ b w', b = w.heap.size → Upd w b (.cells ⟨[]⟩ T (0, 0)) w' → Ops ro P n all G K l (put e dst (.slice (some ⟨b, 0, none⟩) 0 0)) w') : Ops ro P n all G K (⟨dst, .buildSlice t 0 #[], ty, pos, after, g⟩ :: l) e w := by
  refine ops_does (v := .slice (some ⟨w.heap.size, 0, none⟩) 0 0) (w' := w.alloc (.cells ⟨[]⟩ T)) hd hm ?_ (k _ _ rfl (upd_alloc w _))
  simp [execOp, Instr.buildSlice, run_underlying hu, sizeOf, typeInfo, hi, Instr.fill, newRow, run_newObj]
  have e0 : Array.map (fun (_ : Nat) => (default : Value)) (Array.range 0) = ⟨[]⟩ := by simp
  rw [e0]
end Go.Vc
