/- A region that draws its order and whose operations turn nothing that was there: whatever the order, what each leaves holds at the end. -/
import Derived.Test.YtkgngbpkiklckaaGreatDoorQClQAlike9
import Derived.Test.YtkgngbpkiklckaaGreatDoorQClQAlike4
import Derived.Test.YtkgngbpkiklckaaGreatDoorQClQAlike43
namespace Go.Vc
open Go
variable {P : Program} {n : Nat} {e : Env} {w : World} {K : EPost} {ro : Ro} {all : List Oper} {Fl : World → Prop}
/-- the slot of an operation -/
def slotO (all : List Oper) (i : Nat) : Nat := match nthO all i with
  | some o => match o.dst with
    | some d => d
    | none => 0
  | none => 0
def hasO (all : List Oper) (i : Nat) : Bool := match nthO all i with
  | some o => o.dst.isSome
  | none => false
def waitsO (all : List Oper) (i j : Nat) : Bool := match nthO all i with
  | some o => bindsOn o j
  | none => false
def inL : Nat → List Nat → Bool
  | _, [] => false
  | i, j :: r => Nat.beq i j || inL i r
theorem inL_iff {i : Nat} : ∀ {l : List Nat}, inL i l = true ↔ i ∈ l
  | [] => by simp [inL]
  | j :: r => by simp [inL, inL_iff (l := r), Nat.beq_eq]
def nodupL : List Nat → Bool
  | [] => true
  | i :: r => !inL i r && nodupL r
theorem nodupL_iff : ∀ {l : List Nat}, nodupL l = true → l.Nodup
  | [], _ => List.nodup_nil
  | i :: r, h => by
    simp only [nodupL, Bool.and_eq_true, Bool.not_eq_true'] at h
    refine List.nodup_cons.2 ⟨fun hi => ?_, nodupL_iff h.2⟩
    rw [inL_iff.2 hi] at h; cases h.1
/-- what a region must be: none waits for a later one; the last waits for all; each but the last has a slot of its own, none of the kept ones -/
def dagB (all : List Oper) (done0 bs : List Nat) (last : Nat) : Bool :=
  Nat.beq (last + 1) all.toArray.size && lastB all.toArray last &&
  ((List.range (last + 1)).all fun i => match nthO all i with
    | some o => o.after.toList.all fun e => !Region.binds .any e || Nat.blt e.on i
    | none => false) &&
  ((List.range last).all fun i => hasO all i && (inL i done0 || !inL (slotO all i) bs)) &&
  ((List.range last).all fun i => (List.range i).all fun j => !Nat.beq (slotO all i) (slotO all j)) && nodupL done0 && done0.all fun i => Nat.blt i last
theorem pig : ∀ (n : Nat) (l : List Nat), l.Nodup → (∀ j ∈ l, j < n) → l.length ≤ n
  | 0, [], _, _ => Nat.le_refl _
  | 0, a :: r, _, h => absurd (h a (by simp)) (by omega)
  | n + 1, l, hn, h => by
    by_cases hm : n ∈ l
    · have h1 := pig n (l.erase n) (hn.erase n) (fun j hj => by
        have h2 := (hn.mem_erase_iff).1 hj
        have := h j h2.2; have := h2.1; omega)
      rw [List.length_erase_of_mem hm] at h1; omega
    · have := pig n l hn (fun j hj => by
        have h1 := h j hj
        have h2 : j ≠ n := fun h => hm (h ▸ hj)
        omega)
      omega
theorem pig_all : ∀ (n : Nat) (l : List Nat), (∀ j, j < n → j ∈ l) → n ≤ l.length
  | 0, _, _ => Nat.zero_le _
  | n + 1, l, h => by
    have hm := h n (by omega)
    have h1 := pig_all n (l.erase n) (fun j hj => (List.mem_erase_of_ne (by omega)).2 (h j (by omega)))
    rw [List.length_erase_of_mem hm] at h1
    have := List.length_pos_of_mem hm
    omega
theorem pig_full {n : Nat} {l : List Nat} (hn : l.Nodup) (h : ∀ j ∈ l, j < n) (hl : l.length = n) (k : Nat) (hk : k < n) : k ∈ l := by
  refine Classical.byContradiction fun hc => ?_
  have := pig n (k :: l) (List.nodup_cons.2 ⟨hc, hn⟩) (fun j hj => by
    rcases List.mem_cons.1 hj with rfl | hj
    · exact hk
    · exact h j hj)
  simp at this; omega
theorem pig_miss {n : Nat} {l : List Nat} (hl : l.length < n) : ∃ k, k < n ∧ k ∉ l :=
  Classical.byContradiction fun hc => by
    have := pig_all n l (fun j hj => Classical.byContradiction fun h => hc ⟨j, hj, h⟩)
    omega
theorem lst_get {L : Array Oper} : ∀ (done : List Nat) (i : Nat) (d : Bool), i < L.size → (lst L done).getD i d = decide (i ∈ done) := by
  have key : ∀ (done : List Nat) (l : Array Bool) (i : Nat) (d : Bool), i < l.size → (done.foldl (fun l i => l.setIfInBounds i true) l).getD i d = (decide (i ∈ done) || l.getD i d) := by
    intro done
    induction done with
    | nil => intro l i d hi; simp
    | cons j r ih =>
      intro l i d hi
      rw [List.foldl_cons, ih _ _ _ (by simpa using hi)]
      by_cases hij : i = j
      · subst hij
        simp [Array.getD_eq_getD_getElem?, hi]
      · have : j ≠ i := fun h => hij h.symm
        simp [Array.getD_eq_getD_getElem?, Array.getElem?_setIfInBounds, this, hij]
  intro done i d hi
  unfold lst
  rw [key _ _ _ _ (by simpa using hi)]
  simp [Array.getD_eq_getD_getElem?, hi]
theorem lst_eq {L : Array Oper} {a b : List Nat} (h : ∀ i, i ∈ a ↔ i ∈ b) : lst L a = lst L b := by
  refine Array.ext (by rw [lst_size, lst_size]) fun i h1 h2 => ?_
  have e1 := lst_get a i false (by rw [← lst_size L a]; exact h1)
  have e2 := lst_get b i false (by rw [← lst_size L b]; exact h2)
  rw [Array.getD_eq_getD_getElem?, Array.getElem?_eq_getElem h1] at e1
  rw [Array.getD_eq_getD_getElem?, Array.getElem?_eq_getElem h2] at e2
  simp only [Option.getD_some] at e1 e2
  rw [e1, e2, decide_eq_decide]; exact h i
/-- what one operation owes -/
def OblD (ro : Ro) (P : Program) (n : Nat) (all : List Oper) (bs : List Nat) (bv : List Value) (Φ : Nat → Value → World → Prop) (w : World) (i : Nat) : Prop :=
  ∃ o, nthO all i = some o ∧ ∀ e' w', Kp [] w w' → bs.map e' = bv → (∀ j, waitsO all i j = true → Φ j (e' (slotO all j)) w') →
    Ops ro P n all [] (fun e'' w'' => Kp [] w' w'' ∧ ∃ v, e'' = put e' o.dst v ∧ Φ i v w'') [o] e' w'
theorem d_op {bs : List Nat} {bv : List Value} {Φ : Nat → Value → World → Prop} {i : Nat} {o : Oper} (ho : nthO all i = some o)
    (h : ∀ e' w', Kp [] w w' → bs.map e' = bv → (∀ j, waitsO all i j = true → Φ j (e' (slotO all j)) w') →
    Ops ro P n all [] (fun e'' w'' => Kp [] w' w'' ∧ ∃ v, e'' = put e' o.dst v ∧ Φ i v w'') [o] e' w') : OblD ro P n all bs bv Φ w i := ⟨o, ho, h⟩
def OblL (ro : Ro) (P : Program) (n : Nat) (all : List Oper) (bs : List Nat) (bv : List Value) (Φ : Nat → Value → World → Prop) (w : World) : List Nat → Prop
  | [] => True
  | i :: r => OblD ro P n all bs bv Φ w i ∧ OblL ro P n all bs bv Φ w r
theorem d_cons {bs : List Nat} {bv : List Value} {Φ : Nat → Value → World → Prop} {i : Nat} {r : List Nat} (h : OblD ro P n all bs bv Φ w i) (k : OblL ro P n all bs bv Φ w r) : OblL ro P n all bs bv Φ w (i :: r) := ⟨h, k⟩
theorem d_nil {bs : List Nat} {bv : List Value} {Φ : Nat → Value → World → Prop} : OblL ro P n all bs bv Φ w [] := trivial
theorem OblL.mem {bs : List Nat} {bv : List Value} {Φ : Nat → Value → World → Prop} : ∀ {l : List Nat}, OblL ro P n all bs bv Φ w l → ∀ i ∈ l, OblD ro P n all bs bv Φ w i
  | [], _, i, hi => absurd hi (by simp)
  | j :: r, h, i, hi => by
    rcases List.mem_cons.1 hi with rfl | hi
    · exact h.1
    · exact h.2.mem i hi
theorem put_other {e : Env} {d t : Nat} (v : Value) (h : t ≠ d) : put e (some d) v t = e t := by
  simp [put, nbeq_ne h]
theorem put_here {e : Env} {d : Nat} (v : Value) : put e (some d) v d = v := by simp [put]
/-- WHATEVER THE ORDER: each operation leaves what it owes, nothing that was there turns; the last one comes last. -/
theorem t_dag {done0 : List Nat} (Φ : Nat → Value → World → Prop) (bs : List Nat) (bv : List Value) (last : Nat) {fuel fuel0 : Nat}
    (hst : ∀ i v w w', Kp [] w w' → Φ i v w → Φ i v w') (hB : dagB all done0 bs last = true) (hf : Nat.beq (last - done0.length + fuel) fuel0 = true) (hFl : ∀ w', Kp [] w w' → Fl w')
    (h0 : bs.map e = bv) (hd : ∀ j ∈ done0, Φ j (e (slotO all j)) w)
    (hs : OblL ro P n all bs bv Φ w ((List.range last).filter fun i => !inL i done0))
    (hl : ∀ e' w', Kp [] w w' → bs.map e' = bv → (∀ j, j < last → Φ j (e' (slotO all j)) w') → AnyE ro P n all Fl K fuel (List.range last) e' w') : AnyE ro P n all Fl K fuel0 done0 e w := by
  rw [← Nat.eq_of_beq_eq_true hf]
  unfold dagB at hB
  simp only [Bool.and_eq_true, List.all_eq_true, List.mem_range] at hB
  obtain ⟨⟨⟨⟨⟨⟨hsz, hlast⟩, hdep⟩, hslot⟩, hnd⟩, hnd0⟩, hlt0⟩ := hB
  have hsz := Nat.eq_of_beq_eq_true hsz
  have hnd0 := nodupL_iff hnd0
  have hlt0 : ∀ j ∈ done0, j < last := fun j hj => by simpa [Nat.blt_eq] using hlt0 j hj
  have hlen0 : done0.length ≤ last := pig _ _ hnd0 hlt0
  have hinj : ∀ i j, i < last → j < last → slotO all i = slotO all j → i = j := by
    have h1 : ∀ i j, i < last → j < i → slotO all i ≠ slotO all j := fun i j hi hj he => by
      have h2 := hnd i hi j hj
      rw [he, nbeq_self] at h2; cases h2
    intro i j hi hj he
    rcases Nat.lt_trichotomy i j with h | h | h
    · exact absurd he.symm (h1 j i hj h)
    · exact h
    · exact absurd he (h1 i j hi h)
  have claim : ∀ (m : Nat) (dn : List Nat) (e' : Env) (w' : World), dn.Nodup → (∀ j ∈ dn, j < last) → (∀ j ∈ done0, j ∈ dn) → dn.length + m = last → Kp [] w w' → bs.map e' = bv → (∀ j ∈ dn, Φ j (e' (slotO all j)) w') → AnyE ro P n all Fl K (m + fuel) dn e' w' := by
    intro m
    induction m with
    | zero =>
      intro dn e' w' hn hlt _ hlen hk hb hΦ
      have hsub : ∀ i, i ∈ dn ↔ i ∈ List.range last := fun i =>
        ⟨fun h => List.mem_range.2 (hlt i h), fun h => pig_full hn hlt (by omega) i (List.mem_range.1 h)⟩
      have := hl e' w' hk hb (fun j hj => hΦ j ((hsub j).2 (List.mem_range.2 hj)))
      rw [Nat.zero_add]
      unfold AnyE at this ⊢
      rw [lst_eq hsub]; exact this
    | succ m ih =>
      intro dn e' w' hn hlt h0d hlen hk hb hΦ
      have hmiss : ∃ k, k < last ∧ k ∉ dn := pig_miss (by omega)
      intro hcl ds a ha
      have hget : ∀ i d, i < last + 1 → (lst all.toArray dn).getD i d = decide (i ∈ dn) := fun i d hi => lst_get dn i d (by omega)
      rw [show m + 1 + fuel = (m + fuel) + 1 by omega]
      refine ⟨fun hr0 => ?_, fun i hi => ?_⟩
      · exfalso
        obtain ⟨k, hk1, hk2⟩ := hmiss
        have key : ∀ k, k < last → k ∉ dn → False := by
          intro k
          induction k using Nat.strongRecOn with
          | _ k ihk =>
            intro hk1 hk2
            have hd := hdep k (by omega)
            cases ho : nthO all k with
            | none => rw [ho] at hd; cases hd
            | some o =>
              rw [ho] at hd
              simp only [List.all_eq_true, Array.mem_toList_iff, Bool.or_eq_true, Bool.not_eq_true'] at hd
              have hmem : k ∈ Region.ready .any all.toArray (lst all.toArray dn) := by
                refine mem_ready.2 ⟨?_, o, by rw [List.getElem?_toArray, ← nthO_eq]; exact ho, fun e he hb => ?_⟩
                · rw [hget _ _ (by omega)]; simpa using hk2
                · have h1 := (hd e he).resolve_left (by simp [hb])
                  have h1 : e.on < k := by simpa [Nat.blt_eq] using h1
                  rw [hget _ _ (by omega)]
                  refine decide_eq_true (Classical.byContradiction fun h2 => ?_)
                  exact ihk e.on h1 (by omega) h2
              rw [hr0] at hmem; cases hmem
        exact key k hk1 hk2
      · obtain ⟨hi1, o', ho', hi2⟩ := mem_ready.1 hi
        have hisz : i < all.toArray.size := (Array.getElem?_eq_some_iff.1 ho').1
        have hidn : i ∉ dn := by
          rw [hget _ _ (by omega)] at hi1; simpa using hi1
        have hil : i < last := by
          refine Classical.byContradiction fun hge => ?_
          obtain rfl : i = last := by omega
          obtain ⟨k, hk1, hk2⟩ := hmiss
          have h1 := last_listed hcl hi hlast k hk1
          rw [hget _ _ (by omega)] at h1
          exact hk2 (by simpa using h1)
        have hi0 : i ∉ done0 := fun h => hidn (h0d i h)
        obtain ⟨o, ho, hob⟩ := hs.mem i (List.mem_filter.2 ⟨List.mem_range.2 hil, by
          rw [Bool.not_eq_true', Bool.eq_false_iff]; exact fun h => hi0 (inL_iff.1 h)⟩)
        have hoo : o' = o := by
          rw [List.getElem?_toArray, ← nthO_eq, ho] at ho'; exact (Option.some.inj ho').symm
        subst hoo
        have hsl := hslot i hil
        rw [Bool.or_eq_true] at hsl
        obtain ⟨hhas, hbs⟩ := hsl
        have hbs := hbs.resolve_left (fun h => hi0 (inL_iff.1 h))
        unfold hasO at hhas
        rw [ho] at hhas
        obtain ⟨d, hdd⟩ := Option.isSome_iff_exists.1 hhas
        have hsd : slotO all i = d := by unfold slotO; rw [ho]; simp only [hdd]
        refine t_step hi ho ((hob e' w' hk hb (fun j hj => hΦ j ?_)).monoK ?_) hcl ha
        · unfold waitsO at hj
          rw [ho] at hj
          unfold bindsOn at hj
          obtain ⟨ed, he, hbe⟩ := List.any_eq_true.1 hj
          rw [Bool.and_eq_true] at hbe
          have hon : ed.on = j := Nat.eq_of_beq_eq_true hbe.2
          have h1 := hi2 ed (by simpa using he) hbe.1
          have hd := hdep i (by omega)
          rw [ho] at hd
          simp only [List.all_eq_true, Array.mem_toList_iff, Bool.or_eq_true, Bool.not_eq_true'] at hd
          have h2 := (hd ed (by simpa using he)).resolve_left (by simp [hbe.1])
          have h2 : ed.on < i := by simpa [Nat.blt_eq] using h2
          rw [hget _ _ (by omega), hon] at h1
          simpa using h1
        · rintro e'' w'' ⟨hk2, v, rfl, hv⟩
          refine ⟨.inr (hFl _ (hk.trans hk2)), ih (dn ++ [i]) _ w'' ?_ ?_ ?_ ?_ (hk.trans hk2) ?_ ?_⟩
          · rw [List.nodup_append]
            exact ⟨hn, by simp, fun x hx y hy => by rw [List.mem_singleton.1 hy]; rintro rfl; exact hidn hx⟩
          · intro j hj
            rcases List.mem_append.1 hj with hj | hj
            · exact hlt j hj
            · rw [List.mem_singleton.1 hj]; exact hil
          · exact fun j hj => List.mem_append_left _ (h0d j hj)
          · simp; omega
          · rw [← hb, hdd]
            refine List.map_congr_left fun t ht => put_other v ?_
            rintro rfl
            rw [hsd, Bool.not_eq_true', Bool.eq_false_iff] at hbs
            exact hbs (inL_iff.2 ht)
          · intro j hj
            rw [hdd]
            rcases List.mem_append.1 hj with hj | hj
            · rw [put_other]
              · exact hst _ _ _ _ hk2 (hΦ j hj)
              · rw [← hsd]
                intro he
                exact hidn (hinj j i (hlt j hj) hil he ▸ hj)
            · rw [List.mem_singleton.1 hj, hsd, put_here]; exact hv
  have hm : last - done0.length + done0.length = last := by omega
  exact claim (last - done0.length) done0 e w hnd0 hlt0 (fun j hj => hj) (by omega) (Kp.refl _ _) h0 hd
/-- a fact of a value that stays -/
structure SP where
  p : Value → World → Prop
  st : ∀ v w w', Kp [] w w' → p v w → p v w'
def phi : List (Nat × SP) → Nat → Value → World → Prop
  | [], _, _, _ => True
  | (j, s) :: r, i, v, w => bif Nat.beq i j then s.p v w else phi r i v w
theorem phi_st : ∀ (L : List (Nat × SP)) (i : Nat) (v : Value) (w w' : World), Kp [] w w' → phi L i v w → phi L i v w'
  | [], _, _, _, _, _, h => h
  | (j, s) :: r, i, v, w, w', hk, h => by
    unfold phi at h ⊢
    cases hb : Nat.beq i j with
    | true => rw [hb] at h; exact s.st _ _ _ hk h
    | false => rw [hb] at h; exact phi_st r i v w w' hk h
theorem phi_no : ∀ (L : List (Nat × SP)) (i : Nat) (v : Value) (w : World), (L.all fun p => !Nat.beq i p.1) = true → phi L i v w
  | [], _, _, _, _ => trivial
  | (j, s) :: r, i, v, w, h => by
    rw [List.all_cons, Bool.and_eq_true, Bool.not_eq_true'] at h
    unfold phi
    rw [h.1]
    exact phi_no r i v w h.2
theorem t_dagL {done0 : List Nat} (L : List (Nat × SP)) (todo : List Nat) (bs : List Nat) (bv : List Value) (last : Nat) {fuel fuel0 : Nat}
    (hB : (dagB all done0 bs last && Nat.beq (last - done0.length + fuel) fuel0 && ((List.range last).all fun i => inL i done0 || inL i todo) && done0.all fun i => (L.map (·.1)).all fun p => !Nat.beq i p) = true) (hFl : ∀ w', Kp [] w w' → Fl w')
    (h0 : bs.map e = bv)
    (hs : OblL ro P n all bs bv (phi L) w todo)
    (hl : ∀ e' w', Kp [] w w' → bs.map e' = bv → (∀ j, j < last → phi L j (e' (slotO all j)) w') → AnyE ro P n all Fl K fuel (List.range last) e' w') : AnyE ro P n all Fl K fuel0 done0 e w := by
  simp only [Bool.and_eq_true] at hB
  obtain ⟨⟨⟨h1, h2⟩, h3⟩, h4⟩ := hB
  refine t_dag (phi L) bs bv last (phi_st L) h1 h2 hFl h0 (fun j hj => phi_no L j _ _ ?_) ?_ hl
  · have h5 := List.all_eq_true.1 h4 j hj
    rw [List.all_map] at h5
    exact h5
  · have key : ∀ l : List Nat, (∀ i ∈ l, i ∈ todo) → OblL ro P n all bs bv (phi L) w l := by
      intro l
      induction l with
      | nil => exact fun _ => trivial
      | cons a r ih => exact fun h => ⟨hs.mem a (h a (by simp)), ih fun i hi => h i (List.mem_cons_of_mem _ hi)⟩
    refine key _ fun i hi => ?_
    rw [List.mem_filter] at hi
    have h5 := List.all_eq_true.1 h3 i hi.1
    rw [Bool.or_eq_true] at h5
    rcases h5 with h5 | h5
    · rw [h5] at hi; cases hi.2
    · exact inL_iff.1 h5
end Go.Vc
/- Query: trees as values; over again. -/
namespace Go.Vc
open Go Go.Proofs
set_option maxRecDepth 20000
variable {w w' : World}
theorem rows_own {l : List QN} {ad : Option Addr} {cap : Nat} (h : OwnS w 81 4 ad l.length cap (l.flatMap qC)) (hl : l.length ≤ 1048576) (hnm : ∀ x ∈ l, x.name.length ≤ 9223372036854775806) (hnu : ∀ x ∈ l, x.num ≤ 9223372036854775807) : Rows w ad cap l :=
  OwnS.rowsP (m := []) (by simpa using h) hl hnm hnu
/-- a tree as a value: its nodes stand in a row -/
def TreeA (w : World) (v : Value) (l : List QN) : Prop := ∃ ad cap, v = .agg ⟨[.slice ad l.length cap]⟩ ∧ Rows w ad cap l
theorem TreeA.kp {v : Value} {l : List QN} (h : TreeA w v l) (k : Kp [] w w') : TreeA w' v l := by
  obtain ⟨ad, cap, hv, hR⟩ := h
  exact ⟨ad, cap, hv, hR.kp k (by simp)⟩
/-- a row of trees -/
def KidsA (w : World) (v : Value) (ls : List (List QN)) : Prop :=
  ∃ (ks : List KQ) (kad : Option Addr) (kcap : Nat), v = .slice kad ks.length kcap ∧ ReadS w kad (ks.map kqV) ∧ (∀ k ∈ ks, Rows w k.ad k.cap k.l) ∧ ks.map (·.l) = ls
theorem KidsA.kp {v : Value} {ls : List (List QN)} (h : KidsA w v ls) (k : Kp [] w w') : KidsA w' v ls := by
  obtain ⟨ks, kad, kcap, hv, hK, hR, hl⟩ := h
  exact ⟨ks, kad, kcap, hv, hK.kp k (by simp), fun q hq => (hR q hq).kp k (by simp), hl⟩
theorem KidsA.nil : KidsA w (.slice none 0 0) [] := ⟨[], none, 0, rfl, rfl, by simp, rfl⟩
theorem KidsA.one {b : Nat} {ad : Option Addr} {cap : Nat} {l : List QN} {t : TypeId} (g : Blk w b [kqV ⟨ad, cap, l⟩] t) (h : Rows w ad cap l) : KidsA w (.slice (some ⟨b, 0, none⟩) 1 1) [l] :=
  ⟨[⟨ad, cap, l⟩], _, 1, rfl, ReadS.blk g, fun k hk => by rw [List.mem_singleton.1 hk]; exact h, rfl⟩
theorem KidsA.two {b : Nat} {ad ae : Option Addr} {cap cbp : Nat} {l m : List QN} {t : TypeId} (g : Blk w b [kqV ⟨ad, cap, l⟩, kqV ⟨ae, cbp, m⟩] t) (h : Rows w ad cap l) (h2 : Rows w ae cbp m) : KidsA w (.slice (some ⟨b, 0, none⟩) 2 2) [l, m] :=
  ⟨[⟨ad, cap, l⟩, ⟨ae, cbp, m⟩], _, 2, rfl, ReadS.blk g, fun k hk => by
    rcases List.mem_cons.1 hk with rfl | hk
    · exact h
    · rw [List.mem_singleton.1 hk]; exact h2, rfl⟩
theorem over_nm {op num : Int} {name : List UInt8} {L : List QN} (hn : name.length ≤ 9223372036854775806) (h : ∀ x ∈ L, x.name.length ≤ 9223372036854775806) : ∀ x ∈ overR op num name L, x.name.length ≤ 9223372036854775806 := by
  intro x hx
  rcases List.mem_cons.1 hx with rfl | hx
  · exact hn
  · exact h x hx
theorem over_nu {op num : Int} {name : List UInt8} {L : List QN} (hn : num ≤ 9223372036854775807) (h : ∀ x ∈ L, x.num ≤ 9223372036854775807) : ∀ x ∈ overR op num name L, x.num ≤ 9223372036854775807 := by
  intro x hx
  rcases List.mem_cons.1 hx with rfl | hx
  · exact hn
  · exact h x hx
theorem over_tree {ls : List (List QN)} {v : Value} (op num : Int) (name : List UInt8) (h : KidsA w v ls) (hn : name.length ≤ 9223372036854775806) (hu : num ≤ 9223372036854775807) (hl : (ls.flatMap id).length ≤ 1000000) (hk : ls.length ≤ 2) :
    Ret Tryz.prog 19 [I op, S name, I num, v] w (fun r w' => TreeA w' r (overR op num name (ls.flatMap id)) ∧ Kp [] w w') := by
  obtain ⟨ks, kad, kcap, rfl, hK, hR, rfl⟩ := h
  have e : (ks.map (·.l)).flatMap id = ks.flatMap (·.l) := by simp [List.flatMap_map]
  rw [e] at hl ⊢
  refine (over_ret op num name hK (fun k hk => (hR k hk).read) hl (by simpa using hk)).mono fun r w' h => ?_
  obtain ⟨ad, cap, rfl, hO, k, _⟩ := h
  refine ⟨⟨ad, cap, rfl, rows_own hO (by simp [overR]; simp at hl; omega) (over_nm hn fun x hx => ?_) (over_nu hu fun x hx => ?_)⟩, k⟩
  · obtain ⟨q, hq, hx⟩ := List.mem_flatMap.1 hx
    exact (hR q hq).name x hx
  · obtain ⟨q, hq, hx⟩ := List.mem_flatMap.1 hx
    exact (hR q hq).num x hx
theorem KidsA.blk {b : Nat} {ks : List KQ} {t : TypeId} (g : Blk w b (ks.map kqV) t) (h : ∀ k ∈ ks, Rows w k.ad k.cap k.l) : KidsA w (.slice (some ⟨b, 0, none⟩) ks.length ks.length) (ks.map (·.l)) :=
  ⟨ks, _, _, rfl, ReadS.blk g, h, rfl⟩
def kidsS (ls : List (List QN)) : SP := ⟨fun v W => KidsA W v ls, fun _ _ _ k h => h.kp k⟩
def treeS (l : List QN) : SP := ⟨fun v W => TreeA W v l, fun _ _ _ k h => h.kp k⟩
/-- a block that is there, of no elder world -/
def BlkF (n : Nat) (w : World) (v : Value) (cs : List Value) (t : TypeId) : Prop := ∃ b, v = ptr b ∧ Blk w b cs t ∧ n ≤ b
theorem BlkF.kp {n : Nat} {v : Value} {cs : List Value} {t : TypeId} (h : BlkF n w v cs t) (k : Kp [] w w') : BlkF n w' v cs t := by
  obtain ⟨b, hv, hb, hn⟩ := h
  exact ⟨b, hv, k.blk (by simp) hb, hn⟩
def blkS (n : Nat) (cs : List Value) (t : TypeId) : SP := ⟨fun v W => BlkF n W v cs t, fun _ _ _ k h => h.kp k⟩
/-- a row of nodes lies in no block that holds a slice -/
theorem Rows.apart {ad : Option Addr} {cap : Nat} {l : List QN} {bz : Nat} {a : Option Addr} {n m : Nat} {t : TypeId} (h : Rows w ad cap l) (g : Blk w bz [.slice a n m] t) (hl : 0 < l.length) : ∀ b ∈ blkOf ad, b ∉ [bz] := by
  obtain ⟨x, hx⟩ : ∃ x, l[0]? = some x := ⟨_, List.getElem?_eq_getElem hl⟩
  obtain ⟨b, off, rfl, _, hc⟩ := h.cellN hx
  intro b' hb' hz
  simp only [blkOf, List.mem_singleton] at hb' hz
  subst hb'
  subst hz
  have h1 := hc 0 (I x.op) rfl
  unfold Blk at g
  simp only [World.cell?, g] at h1
  rcases Nat.eq_zero_or_pos (off + 0 * 4 + 0) with h0 | h0
  · rw [h0] at h1; simp at h1
  · obtain ⟨k, hk⟩ : ∃ k, off + 0 * 4 + 0 = k + 1 := ⟨_, (Nat.succ_pred_eq_of_pos h0).symm⟩
    rw [hk] at h1; simp at h1
/-- a block that holds a tree -/
def Held (w : World) (b : Nat) (l : List QN) : Prop := ∃ ad cap, Blk w b [.slice ad l.length cap] 24 ∧ Rows w ad cap l
theorem Held.kp {b : Nat} {l : List QN} (h : Held w b l) (k : Kp [] w w') : Held w' b l := by
  obtain ⟨ad, cap, g, r⟩ := h
  exact ⟨ad, cap, k.blk (by simp) g, r.kp k (by simp)⟩
/-- the rows of the questions, as they are built -/
theorem rows_n0 (op : Int) : (QT.n0 op 0 []).rows = overR op 0 [] [] := rfl
theorem rows_n1 (op : Int) (name : List UInt8) (q : QT) : (QT.n1 op 0 name q).rows = overR op 0 name q.rows := by
  rw [QT.rows, overR, QT.rows_len]
theorem rows_n2 (op : Int) (a b : QT) : (QT.n2 op 0 [] a b).rows = overR op 0 [] (a.rows ++ b.rows) := by
  rw [QT.rows, overR, List.length_append, QT.rows_len, QT.rows_len]; norm_cast; rw [Nat.add_assoc]
theorem n0_len (op : Int) : (QT.n0 op 0 []).rows.length = 1 := rfl
theorem n1_len (op : Int) (name : List UInt8) (q : QT) : (QT.n1 op 0 name q).rows.length = 1 + q.rows.length := by
  rw [rows_n1]; simp [overR]; omega
theorem n2_len (op : Int) (a b : QT) : (QT.n2 op 0 [] a b).rows.length = 1 + (a.rows.length + b.rows.length) := by
  rw [rows_n2]; simp [overR]; omega
section
variable (name : List UInt8) (q : QT)
theorem len0 : (freeQ name q).rows.length = 1 + q.rows.length := by simp only [freeQ, n1_len]
theorem len1 : zeroQ.rows.length = 1 := by simp only [zeroQ, n0_len]
theorem len2 : (countQ name q).rows.length = 3 + q.rows.length := by simp only [countQ, zeroQ, n2_len, n1_len, n0_len]; omega
theorem len3 : (leastQ name q).rows.length = 3 + q.rows.length := by simp only [leastQ, zeroQ, n2_len, n1_len, n0_len]; omega
theorem len4 : (mostQ name q).rows.length = 3 + q.rows.length := by simp only [mostQ, zeroQ, n2_len, n1_len, n0_len]; omega
theorem len5 : (notQ q).rows.length = 1 + q.rows.length := by simp only [notQ, n1_len]
theorem len6 : (QT.n1 23 0 name (notQ q)).rows.length = 2 + q.rows.length := by simp only [notQ, n1_len]; omega
theorem len8 : (everyQ name q).rows.length = 1 + q.rows.length := by simp only [everyQ, n1_len]
theorem len10 : (QT.n1 24 0 name q).rows.length = 1 + q.rows.length := by simp only [n1_len]
theorem len11 : (QT.n1 25 0 name q).rows.length = 1 + q.rows.length := by simp only [n1_len]
theorem len12 : (QT.n1 26 0 name q).rows.length = 1 + q.rows.length := by simp only [n1_len]
theorem len13 : (QT.n0 3 0 []).rows.length = 1 := by simp only [n0_len]
theorem len14 : (QT.n2 18 0 [] (freeQ name q) (everyQ name q)).rows.length = 3 + 2 * q.rows.length := by simp only [freeQ, everyQ, n2_len, n1_len]; omega
theorem len15 : (notQ (freeQ name q)).rows.length = 2 + q.rows.length := by simp only [freeQ, notQ, n1_len]; omega
theorem len16 : (notQ (everyQ name q)).rows.length = 2 + q.rows.length := by simp only [everyQ, notQ, n1_len]; omega
theorem len18 : (neitherQ name q).rows.length = 5 + 2 * q.rows.length := by simp only [neitherQ, notQ, freeQ, everyQ, n2_len, n1_len]; omega
end
theorem over_n0 {v : Value} (op : Int) (h : KidsA w v []) : Ret Tryz.prog 19 [I op, S [], I 0, v] w (fun r w' => TreeA w' r (QT.n0 op 0 []).rows ∧ Kp [] w w') := by
  have := over_tree op 0 [] h (by simp) (by decide) (by simp) (by simp)
  simpa [rows_n0] using this
theorem over_n1 {v : Value} (op : Int) (name : List UInt8) (q : QT) (h : KidsA w v [q.rows]) (hn : name.length ≤ 1048576) (hl : q.rows.length ≤ 1000000) :
    Ret Tryz.prog 19 [I op, S name, I 0, v] w (fun r w' => TreeA w' r (QT.n1 op 0 name q).rows ∧ Kp [] w w') := by
  have := over_tree op 0 name h (by omega) (by decide) (by simpa using hl) (by simp)
  rw [rows_n1]
  simpa using this
theorem over_n2 {v : Value} (op : Int) (a b : QT) (h : KidsA w v [a.rows, b.rows]) (hl : a.rows.length + b.rows.length ≤ 1000000) :
    Ret Tryz.prog 19 [I op, S [], I 0, v] w (fun r w' => TreeA w' r (QT.n2 op 0 [] a b).rows ∧ Kp [] w w') := by
  have := over_tree op 0 [] h (by simp) (by decide) (by simpa using hl) (by simp)
  rw [rows_n2]
  simpa using this
theorem ask_zero {l : List QN} {s : Shp} {E : List Ev} {f : Int} (h : (askM l s E f).2 = 0) : ∃ t, lookedM l = .ok t ∧ orderM s E = 0 ∧ (answerO t.op.toNat = 2 → (askM l s E f).1.truth = decide ((evq (qwO E (rnds s E E.length)) t fun _ => 0).1 = 1)) := by
  unfold askM at h ⊢
  cases hl : lookedM l with
  | error c => rw [hl] at h; exact absurd h (looked_err hl)
  | ok t =>
    rw [hl] at h
    dsimp only at h ⊢
    by_cases ho : orderM s E = 0
    · rw [if_pos ho] at h ⊢
      refine ⟨t, rfl, ho, fun ha => ?_⟩
      unfold fuelM at h ⊢
      by_cases c1 : f < 0 ∨ 67108864 < f
      · rw [if_pos c1] at h; exact absurd h (by decide)
      rw [if_neg c1] at h ⊢
      by_cases c2 : f < (evq (qwO E (rnds s E E.length)) t fun _ => 0).2
      · rw [if_pos c2] at h; exact absurd h (by decide)
      rw [if_neg c2, if_pos ha]
    · rw [if_neg ho] at h; exact absurd h ho
end Go.Vc
