/- NamesPlays: the tables' calls, a table there or not. -/
import Derived.Test.YtghdpibdidfpbaaDoorQClNPlays29
import Derived.Test.YtghdpibdidfpbaaDoorQClNPlays9
import Derived.Test.YtghdpibdidfpbaaDoorQClNPlays20
namespace Go.Vc
open Go Go.Proofs
set_option maxRecDepth 10000
variable {w : World}
/-- the names, none where there is no table -/
def lo (o : Option (List Str)) : List Str := o.getD []
theorem TabO.few {v : Value} {fp : List Nat} {o : Option (List Str)} (h : TabO w v fp o) : (lo o).length ≤ 131072 := by
  cases o with
  | none => simp [lo]
  | some l => obtain ⟨_, _, _, _, _, hT⟩ := h; exact hT.few
variable {v0 : Value} {fp : List Nat} {o : Option (List Str)}
theorem findO_ret (h : TabO w v0 fp o) (k : Str) : Ret Tryd.prog 8 [v0, S k] w (fun v w' => v = findV (lo o) k ∧ w' = w) := by
  cases o with
  | none => exact find_no h.1 k
  | some l => obtain ⟨p, m, ad, cap, rfl, hT⟩ := h; exact find_ret hT k
theorem nameO_ret (h : TabO w v0 fp o) (n : Int) : Ret Tryd.prog 14 [v0, I n] w (fun v w' => v = nameV (lo o) n ∧ w' = w) := by
  cases o with
  | none =>
    refine (nname_no h.1 n).mono ?_
    rintro v w' ⟨rfl, rfl⟩
    refine ⟨?_, rfl⟩
    unfold nameV lo
    rw [if_neg (by simp only [Option.getD_none, List.length_nil]; omega)]
  | some l => obtain ⟨p, m, ad, cap, rfl, hT⟩ := h; exact nname_ret hT n
theorem lenO_ret (h : TabO w v0 fp o) : Ret Tryd.prog 13 [v0] w (fun v w' => v = I (lo o).length ∧ w' = w) := by
  cases o with
  | none => exact nlen_no h.1
  | some l => obtain ⟨p, m, ad, cap, rfl, hT⟩ := h; exact nlen_ret hT
theorem allO_ret (h : TabO w v0 fp o) : Ret Tryd.prog 22 [v0] w (fun v w' => ∃ Fp, NmSeq w' v Fp (lo o) ∧ Kp [] w w' ∧ ∀ b, b ∈ Fp → w.heap.size ≤ b) := by
  cases o with
  | none => exact namesAll_no h.1
  | some l => obtain ⟨p, m, ad, cap, rfl, hT⟩ := h; exact namesAll_ret hT
theorem sortedO_ret (h : TabO w v0 fp o) : Ret Tryd.prog 31 [v0] w (fun v w' => ∃ ad cap, ∃ out : List Nat, v = .slice ad out.length cap ∧ NewS w 3 w' ad out.length cap (out.map encJ) ∧ out.Perm (List.range (lo o).length) ∧ out.Pairwise (LeN (lo o))) :=
  sorted_ret h.few (fun w' hk => allO_ret (h.kp hk (by simp))) h.ptr (by
    cases o with
    | none => exact .inl rfl
    | some l => obtain ⟨p, m, ad, cap, rfl, hT⟩ := h; exact .inr ⟨p, fp, m, ad, cap, rfl, hT⟩)
theorem nearO_ret (h : TabO w v0 fp o) (name : Str) (most : Int) (hmost : -9223372036854775808 ≤ most ∧ most ≤ 9223372036854775807) : Ret Tryd.prog 11 [v0, S name, I most] w (fun v w' => ∃ ad cap, ∃ out : List Nat, v = .slice ad out.length cap ∧ NewS w 3 w' ad out.length cap (out.map encJ) ∧ out.Perm (nearOf (lo o) name most) ∧ Srt (nearD (lo o) name) out) :=
  near_ret h.few (fun w' hk => allO_ret (h.kp hk (by simp))) h.ptr hmost
theorem closestO_ret (h : TabO w v0 fp o) (name : Str) (least : Nat) : Ret Tryd.prog 34 [v0, S name, .float .f64 least] w (fun v w' => v = .tuple #[I (cloL name least (nums (lo o))).1, .bool (cloL name least (nums (lo o))).2.1] ∧ Kp [] w w') :=
  closest_ret h.few (fun w' hk => allO_ret (h.kp hk (by simp))) h.ptr
/-- what Fresh answers -/
def FrV (o : Option (List Str)) (base : Str) (v : Value) : Prop := match o with
  | none => v = .tuple #[S [], I 1]
  | some l => if nameB base = true then ∃ k, v = .tuple #[S (frn base k), I 0] ∧ frn base k ∉ l ∧ ∀ j, j < k → frn base j ∈ l else v = .tuple #[S [], I 60]
theorem FrV.one {base : Str} {v v' : Value} (h : FrV o base v) (k : FrV o base v') : v = v' := by
  cases o with
  | none => exact h.trans k.symm
  | some l =>
    unfold FrV at h k
    dsimp only at h k
    by_cases c : nameB base = true
    · rw [if_pos c] at h k
      obtain ⟨x, rfl, h1, h2⟩ := h
      obtain ⟨y, rfl, k1, k2⟩ := k
      have : x = y := by
        by_cases h3 : x < y
        · exact absurd (k2 x h3) h1
        · by_cases h4 : y < x
          · exact absurd (h2 y h4) k1
          · omega
      rw [this]
    · rw [if_neg c] at h k
      exact h.trans k.symm
theorem freshO_ret (hP : PowW w) (h : TabO w v0 fp o) (base : Str) (hs : base.length ≤ 9223372036854775807) : Ret Tryd.prog 12 [v0, S base] w (fun v w' => FrV o base v ∧ Kp [] w w') := by
  cases o with
  | none => exact (fresh_no h.1 base).mono fun v w' ⟨h1, h2⟩ => ⟨h1, by rw [h2]; exact Kp.refl _ _⟩
  | some l =>
    obtain ⟨p, m, ad, cap, rfl, hT⟩ := h
    unfold FrV
    dsimp only
    by_cases c : nameB base = true
    · simp only [if_pos c]
      exact (fresh_ret itoaF hP hT base c).mono fun v w' ⟨k, h1, _, h3, h4, h5⟩ => ⟨⟨k, h1, h3, h4⟩, h5⟩
    · simp only [if_neg c]
      exact (fresh_bad hT base hs (by simpa using c)).mono fun v w' ⟨h1, h2⟩ => ⟨h1, by rw [h2]; exact Kp.refl _ _⟩
/-! ### the document's -/
theorem TabR.few {v : Value} {fp : List Nat} {o : Option (List Str)} (h : TabR w v fp o) : (lo o).length ≤ 131072 := by
  cases o with
  | none => simp [lo]
  | some l => obtain ⟨_, _, _, _, _, hT⟩ := h; exact hT.few
theorem findR_ret (h : TabR w v0 fp o) (k : Str) : Ret Tryd.prog 27 [v0, S k] w (fun v w' => v = findV (lo o) k ∧ w' = w) := by
  cases o with
  | none => obtain ⟨rfl, _⟩ := h; exact rfind_nil k
  | some l => obtain ⟨q, ad, cap, rfl, _, hT⟩ := h; exact rfind_ret hT k
theorem nameR_ret (h : TabR w v0 fp o) (n : Int) : Ret Tryd.prog 28 [v0, I n] w (fun v w' => v = nameV (lo o) n ∧ w' = w) := by
  cases o with
  | none =>
    obtain ⟨rfl, _⟩ := h
    refine (rtname_nil n).mono ?_
    rintro v w' ⟨rfl, rfl⟩
    refine ⟨?_, rfl⟩
    unfold nameV lo
    rw [if_neg (by simp only [Option.getD_none, List.length_nil]; omega)]
  | some l => obtain ⟨q, ad, cap, rfl, _, hT⟩ := h; exact rtname_ret hT n
theorem namesR_ret (h : TabR w v0 fp o) : Ret Tryd.prog 29 [v0] w (fun v w' => ∃ ad' cap', v = .slice ad' (lo o).length cap' ∧ NewS w 9 w' ad' (lo o).length cap' ((lo o).map S)) := by
  cases o with
  | none =>
    obtain ⟨rfl, _⟩ := h
    exact rnames_nil.mono fun v w' ⟨h1, h2⟩ => ⟨none, 0, h1, by rw [h2]; exact ⟨ownS_nil _ _ _, Kp.refl _ _, by simp [blkOf]⟩⟩
  | some l => obtain ⟨q, ad, cap, rfl, _, hT⟩ := h; exact rnames_ret hT
theorem sortedR_ret (h : TabR w v0 fp o) : Ret Tryd.prog 32 [v0] w (fun v w' => ∃ ad cap, ∃ out : List Nat, v = .slice ad out.length cap ∧ NewS w 3 w' ad out.length cap (out.map encJ) ∧ out.Perm (List.range (lo o).length) ∧ out.Pairwise (LeN (lo o))) :=
  rsorted_ret h.few h.ptr (namesR_ret h)
theorem nearR_ret (h : TabR w v0 fp o) (name : Str) (most : Int) (hmost : -9223372036854775808 ≤ most ∧ most ≤ 9223372036854775807) : Ret Tryd.prog 33 [v0, S name, I most] w (fun v w' => ∃ ad cap, ∃ out : List Nat, v = .slice ad out.length cap ∧ NewS w 3 w' ad out.length cap (out.map encJ) ∧ out.Perm (nearOf (lo o) name most) ∧ Srt (nearD (lo o) name) out) :=
  rnear_ret h.few h.ptr (namesR_ret h) hmost
theorem closestR_ret (h : TabR w v0 fp o) (name : Str) (least : Nat) : Ret Tryd.prog 35 [v0, S name, .float .f64 least] w (fun v w' => v = .tuple #[I (cloL name least (nums (lo o))).1, .bool (cloL name least (nums (lo o))).2.1] ∧ Kp [] w w') :=
  rclosest_ret h.few h.ptr (namesR_ret h)
theorem freshR_ret (hP : PowW w) (h : TabR w v0 fp o) (base : Str) (hs : base.length ≤ 9223372036854775807) : Ret Tryd.prog 36 [v0, S base] w (fun v w' => FrV o base v ∧ Kp [] w w') := by
  cases o with
  | none => obtain ⟨rfl, _⟩ := h; exact (rfresh_nil base).mono fun v w' ⟨h1, h2⟩ => ⟨h1, by rw [h2]; exact Kp.refl _ _⟩
  | some l =>
    obtain ⟨q, ad, cap, rfl, _, hT⟩ := h
    unfold FrV
    dsimp only
    by_cases c : nameB base = true
    · simp only [if_pos c]
      exact (rfresh_ret hP hT base c).mono fun v w' ⟨k, h1, h3, h4, h5⟩ => ⟨⟨k, h1, h3, h4⟩, h5⟩
    · simp only [if_neg c]
      exact (rfresh_bad hT base hs (by simpa using c)).mono fun v w' ⟨h1, h2⟩ => ⟨h1, by rw [h2]; exact Kp.refl _ _⟩
/-! ### one sorted row -/
theorem sorted_one {l : List Str} (hn : l.Nodup) {a b : List Nat} (ha : a.Perm (List.range l.length)) (hb : b.Perm (List.range l.length)) (sa : a.Pairwise (LeN l)) (sb : b.Pairwise (LeN l)) : a = b := by
  have key : ∀ (x y : Nat), x < l.length → y < l.length → LeN l x y → LeN l y x → x = y := fun x y hx hy h1 h2 => by
    have e := sl_tri h2 h1
    rw [List.getD_eq_getElem?_getD, List.getD_eq_getElem?_getD, List.getElem?_eq_getElem hx, List.getElem?_eq_getElem hy] at e
    exact (List.getElem_inj hn).1 e
  have go : ∀ (a b : List Nat), a.Perm b → (∀ x ∈ a, x < l.length) → a.Pairwise (LeN l) → b.Pairwise (LeN l) → a = b := by
    intro a
    induction a with
    | nil => intro b h _ _ _; exact h.symm.eq_nil.symm
    | cons x r ih =>
      intro b h hm ha hb
      cases b with
      | nil => cases h.eq_nil
      | cons y s =>
        have hxy : x = y := by
          have h1 : x ∈ y :: s := h.subset (by simp)
          have h2 : y ∈ x :: r := h.symm.subset (by simp)
          rcases List.mem_cons.1 h1 with e | h1
          · exact e
          · rcases List.mem_cons.1 h2 with e | h2
            · exact e.symm
            · exact key x y (hm x (by simp)) (hm y (by simp [h2])) ((List.pairwise_cons.1 ha).1 y h2) ((List.pairwise_cons.1 hb).1 x h1)
        subst hxy
        rw [ih s (List.Perm.cons_inv h) (fun z hz => hm z (by simp [hz])) (List.pairwise_cons.1 ha).2 (List.pairwise_cons.1 hb).2]
  exact go a b (ha.trans hb.symm) (fun x hx => List.mem_range.1 (ha.subset hx)) sa sb
/-! ### additions -/
def addNo (o : Option (List Str)) (s : Str) : Int := match o with | none => 0 | some l => addN l s
def addEo (o : Option (List Str)) (s : Str) : Int := match o with | none => 1 | some l => addE l s
def addLo (o : Option (List Str)) (s : Str) : Option (List Str) := o.map fun l => addL l s
theorem addL_nodup' {l : List Str} {s : Str} (h : l.Nodup) : (addL l s).Nodup := by
  unfold addL
  split
  · rename_i c
    have hn := nidx_none.1 c.2.1
    refine List.nodup_append.2 ⟨h, by simp, fun x hx y hy e => ?_⟩
    simp at hy
    subst hy e
    exact hn hx
  · exact h
variable {w0 : World} {g : DG}
theorem DS.to (h : DS w0 w g) {k : Nat} (hk : k < 2) : TabO w (g.v k) (g.f k) (g.o k) := by
  have := h.tb k (by omega)
  unfold TP at this
  rwa [if_pos hk] at this
theorem DS.tr (h : DS w0 w g) {k : Nat} (hk : k < 2) : TabR w (g.v (2 + k)) (g.f (2 + k)) (g.o (2 + k)) := by
  have := h.tb (2 + k) (by omega)
  unfold TP at this
  rwa [if_neg (by omega)] at this
theorem setN_self {α : Type} {f : Nat → α} {k : Nat} : setN f k (f k) = f := by
  funext i; unfold setN; split
  · rename_i h; rw [h]
  · rfl
theorem addO_ret (h : DS w0 w g) {k : Nat} (hk : k < 2) (s : Str) (hs : s.length ≤ 9223372036854775807) : Ret Tryd.prog 9 [g.v k, S s] w (fun v w' => v = .tuple #[I (addNo (g.o k) s), I (addEo (g.o k) s)] ∧ Kp (g.f k) w w' ∧ ∃ fp', DS w0 w' { g with f := setN g.f k fp', o := setN g.o k (addLo (g.o k) s) } ∧ ∀ b, b ∈ fp' → b ∈ g.f k ∨ w.heap.size ≤ b) := by
  have hT := h.to hk
  have hnd := h.nd k (by omega)
  cases ho : g.o k with
  | none =>
    rw [ho] at hT
    refine (add_no hT.1 s).mono ?_
    rintro v w' ⟨rfl, rfl⟩
    refine ⟨rfl, Kp.refl _ _, g.f k, ?_, fun b hb => .inl hb⟩
    have e : setN g.o k (addLo none s) = g.o := by rw [show addLo none s = g.o k by rw [ho]; rfl]; exact setN_self
    rw [setN_self, e]
    exact h
  | some l =>
    rw [ho] at hT
    obtain ⟨p, m, ad, cap, hv, hT⟩ := hT
    rw [hv]
    refine (add_ret hT s hs).mono ?_
    rintro v w' ⟨rfl, fp', m', ad', cap', hT', hk', hnew⟩
    refine ⟨rfl, hk', fp', h.tab (by omega) hk' ?_ hnew hT'.lt (fun l' hl' => ?_), hnew⟩
    · unfold TP; rw [if_pos hk]; exact ⟨p, m', ad', cap', hv, hT'⟩
    · cases hl'; exact addL_nodup' (hnd l ho)
theorem addR_ret (h : DS w0 w g) {k : Nat} (hk : k < 2) (s : Str) (hs : s.length ≤ 9223372036854775807) : Ret Tryd.prog 26 [g.v (2 + k), S s] w (fun v w' => v = .tuple #[I (addNo (g.o (2 + k)) s), I (addEo (g.o (2 + k)) s)] ∧ Kp (g.f (2 + k)) w w' ∧ ∃ fp', DS w0 w' { g with f := setN g.f (2 + k) fp', o := setN g.o (2 + k) (addLo (g.o (2 + k)) s) } ∧ ∀ b, b ∈ fp' → b ∈ g.f (2 + k) ∨ w.heap.size ≤ b) := by
  have hT := h.tr hk
  have hnd := h.nd (2 + k) (by omega)
  cases ho : g.o (2 + k) with
  | none =>
    rw [ho] at hT
    rw [hT.1]
    refine (radd_nil s).mono ?_
    rintro v w' ⟨rfl, rfl⟩
    refine ⟨rfl, Kp.refl _ _, g.f (2 + k), ?_, fun b hb => .inl hb⟩
    have e : setN g.o (2 + k) (addLo none s) = g.o := by rw [show addLo none s = g.o (2 + k) by rw [ho]; rfl]; exact setN_self
    rw [setN_self, e]
    exact h
  | some l =>
    rw [ho] at hT
    obtain ⟨q, ad, cap, hv, hf, hT⟩ := hT
    rw [hv]
    refine (radd_ret hT s hs).mono ?_
    rintro v w' ⟨rfl, ad', cap', hT', hk', hnew⟩
    rw [← hf] at hk' hnew
    refine ⟨rfl, hk', rfp q ad', h.tab (by omega) hk' ?_ hnew hT'.lt (fun l' hl' => ?_), hnew⟩
    · unfold TP; rw [if_neg (by omega)]; exact ⟨q, ad', cap', hv, rfl, hT'⟩
    · cases hl'; exact addL_nodup' (hnd l ho)
end Go.Vc
/- Outermost loops over functions in a function whose results lie in memory. -/
namespace Go.Vc
open Go
variable {P : Program} {n : Nat} {w : World}
theorem leaves_of_shutC {fn : Func} {tmps : Array Value} {Q : World → Prop} {RE : Ending → World → Prop} (hv : ∀ w, Q w → ∃ v, (results fn tmps).run P w = .ok v w ∧ RE (.returned v) w) :
    ∀ (ds : List Nat) (w : World), Shut Q ds w → LeavesInM (FW none) 0 P fn tmps RE (ds.map markOf) .returning w
  | [], w, h => by
    obtain ⟨v, h1, h2⟩ := hv w h
    exact ⟨v, h1, h2⟩
  | D :: ds, w, h => by
    refine ⟨by simp, .inl ⟨D, w.putObj D (.deferred none), rfl, run_takeDeferred h.1, ?_⟩⟩
    exact leaves_of_shutC hv ds _ (h.2 _ (upd_putObj (Array.getElem?_eq_some_iff.1 h.1).1))
theorem enterMC {f : FuncId} {fn : Func} {c : Code} {vs : List Value} {R : Value → World → Prop} (hE : Enters P f) (hf : P.funcs[f]? = some fn) (hb : fn.body = some c) (hn : fn.ntmps = n) {rs : List ResultVar} (hr : fn.results = ⟨rs⟩)
    (hl : Nat.ble vs.length n = true) (h : WpM P n c (fun ds e w => Shut (fun w => ∃ us, resC P e w rs us ∧ R (tupV us) w) ds w) [] (fun ds e w => Shut (fun w => ∃ us, resC P e w rs us ∧ R (tupV us) w) ds w) [] (nth vs) w) : Ret P f vs w R := by
  refine ⟨hE, callsFW' (callsIn_of_wp_marks (n := 0) hf hb trivial ?_)⟩
  rw [hn]
  refine wpIn_mono (h _ (fit_enter vs n (Nat.le_of_ble_eq_true hl))) ?_
  intro x a w hq
  have fin : (∃ ds e, Fit n (ds.map markOf) a e ∧ Shut (fun w => ∃ us, resC P e w rs us ∧ R (tupV us) w) ds w) → LeavesInM (FW none) 0 P fn a.tmps (fun x w' => ∃ v, x = .returned v ∧ R v w') a.defers .returning w := by
    rintro ⟨ds, e, hfit, hS⟩
    rw [hfit.defers]
    exact leaves_of_shutC (fun w hq => by obtain ⟨us, h1, h2⟩ := hq; exact ⟨tupV us, results_resC hr hfit h1, _, rfl, h2⟩) ds w hS
  cases x with
  | normal => exact fin hq
  | ret => exact fin hq
  | exit id => obtain ⟨J, ds, e, hJ, _⟩ := hq; cases hJ
  | goto l => exact hq.elim
  | panic c => exact hq.elim
  | outgrown => exact hq.elim
section
variable {e : Env} {KM : MPost} {XM : List (Nat × MPost)} {RM : MPost} {ds : List Nat}
end
end Go.Vc
/- NamesPlays: walk. -/
namespace Go.Vc
open Go Go.Proofs
set_option maxRecDepth 10000
section
variable {P : Program} {n : Nat} {w : World} {e : Env} {KM : MPost} {XM : List (Nat × MPost)} {RM : MPost} {ds : List Nat}
/-- a cut between two parts -/
theorem m_seqC {x y : Code} (Q : MPost) (h : WpM P n x Q XM RM ds e w) (k : ∀ ds e w, Q ds e w → WpM P n y KM XM RM ds e w) : WpM P n (.seq x y) KM XM RM ds e w := by
  refine m_seq fun a ha => wpIn_mono (h a ha) ?_
  intro z a w hq
  cases z with
  | normal => obtain ⟨ds, e, hf, hk⟩ := hq; exact ⟨ds, e, hf, k _ _ _ hk⟩
  | exit i => exact hq
  | ret => exact hq
  | goto l => exact hq
  | panic c => exact hq
  | outgrown => exact hq
end
variable {w w0 : World} {g : DG}
theorem TabO.keep {w w' : World} {v : Value} {fp : List Nat} {o : Option (List Str)} (h : TabO w v fp o) (hk : ∀ b, b ∈ fp → w'.heap[b]? = w.heap[b]?) : TabO w' v fp o := by
  cases o with
  | none =>
    refine ⟨?_, h.2⟩
    rcases h.1 with h1 | ⟨p, h1, hb⟩
    · exact .inl h1
    · exact .inr ⟨p, h1, by unfold Blk; rw [hk p (by rw [h.2 p h1]; simp)]; exact hb⟩
  | some l =>
    obtain ⟨p, m, ad, cap, h1, h2⟩ := h
    exact ⟨p, m, ad, cap, h1, h2.keep hk⟩
theorem TabR.keep {w w' : World} {v : Value} {fp : List Nat} {o : Option (List Str)} (h : TabR w v fp o) (hk : ∀ b, b ∈ fp → w'.heap[b]? = w.heap[b]?) : TabR w' v fp o := by
  cases o with
  | none => exact h
  | some l =>
    obtain ⟨q, ad, cap, h1, rfl, h2⟩ := h
    exact ⟨q, ad, cap, h1, rfl, by unfold Blk; rw [hk q (by simp)]; exact h2.hdr, h2.own.keep (fun b hb => hk b (by simp [hb])), h2.few⟩
theorem DS.keep {w' : World} (h : DS w0 w g) (hk : ∀ i b, b ∈ g.F i → w'.heap[b]? = w.heap[b]?) (hs : w.heap.size ≤ w'.heap.size) : DS w0 w' g := by
  refine ⟨by unfold Blk; rw [hk .d g.W (by simp [DG.F])]; exact h.hdr, fun k hk4 => ?_, h.kr.keep (hk .kr), h.wr.keep (hk .wr),
    fun i e he => (h.ek i e he).keep (fun b hb => hk (.ek i) b (by rw [DG.Fek he]; exact hb)), fun i e he => (h.ew i e he).keep (fun b hb => hk (.ew i) b (by rw [DG.Few he]; exact hb)),
    h.low, fun i b hb => Nat.lt_of_lt_of_le (h.lt i b hb) hs, h.ap, h.nd, h.xb⟩
  have hb : ∀ b, b ∈ g.f k → w'.heap[b]? = w.heap[b]? := fun b hb => hk (.t k) b (by rw [DG.Ft hk4]; exact hb)
  have := h.tb k hk4
  unfold TP at *
  split
  · rename_i c; rw [if_pos c] at this; exact TabO.keep this hb
  · rename_i c; rw [if_neg c] at this; exact TabR.keep this hb
theorem DS.nc {w' : World} {B : Nat} (h : DS w0 w g) (hn : Nc B w w') (hB : ∀ i b, b ∈ g.F i → b < B) : DS w0 w' g :=
  h.keep (fun i b hb => hn.at_lt (hB i b hb) (h.lt i b hb)) hn.size
theorem DS.own_cell (h : DS w0 w g) {n : Nat} (hn : n < 2) : w.cell? ⟨g.W, n, none⟩ = some (g.v n) := by
  have : n = 0 ∨ n = 1 := by omega
  rcases this with rfl | rfl
  · exact h.hdr.cell rfl
  · exact h.hdr.cell rfl
theorem DS.ref_cell (h : DS w0 w g) {n : Nat} (hn : n < 2) : w.cell? ⟨g.W, 2 + n, none⟩ = some (g.v (2 + n)) := by
  have : n = 0 ∨ n = 1 := by omega
  rcases this with rfl | rfl
  · exact h.hdr.cell rfl
  · exact h.hdr.cell rfl
/-- both tables of each pair have the same names -/
def DG.eqs (g : DG) : Prop := g.o 0 = g.o 2 ∧ g.o 1 = g.o 3
theorem DG.eqs.at_ {n : Nat} (h : g.eqs) (hn : n < 2) : g.o n = g.o (2 + n) := by
  have : n = 0 ∨ n = 1 := by omega
  rcases this with rfl | rfl
  · exact h.1
  · exact h.2
theorem eqs_set {o : Nat → Option (List Str)} {n : Nat} {x : Option (List Str)} (h : o 0 = o 2 ∧ o 1 = o 3) (hn : n < 2) : (setN (setN o n x) (2 + n) x) 0 = (setN (setN o n x) (2 + n) x) 2 ∧ (setN (setN o n x) (2 + n) x) 1 = (setN (setN o n x) (2 + n) x) 3 := by
  have : n = 0 ∨ n = 1 := by omega
  rcases this with rfl | rfl
  · unfold setN; simp [h.2]
  · unfold setN; simp [h.1]
/-- while a walk goes on -/
structure WkI (w0 Wb : World) (Fp : List Nat) (b5 b6 b7 b9 : Nat) (leave : Int) (L : List Str) (adN : Option Addr) (capN : Nat) (g : DG) (k : Nat) (W : World) : Prop where
  n5 : Blk W b5 [I leave] 3
  n6 : Blk W b6 [.bool false] 4
  n7 : Blk W b7 [.slice adN L.length capN] 22
  n9 : Blk W b9 [I k] 3
  own : OwnS W 9 1 adN L.length capN (L.map S)
  ds : DS w0 W g
  kp : Kp [] w0 W
  fp : ∀ b, b ∈ Fp → W.heap[b]? = Wb.heap[b]?
  sz : Wb.heap.size ≤ W.heap.size
  Fl : ∀ i b, b ∈ g.F i → b < Wb.heap.size
  fB : ∀ b, b ∈ Fp → b < Wb.heap.size ∧ b ≠ b9
  wB : w0.heap.size ≤ Wb.heap.size ∧ w0.heap.size ≤ b9
  ne : b5 ≠ b6 ∧ b5 ≠ b7 ∧ b5 ≠ b9 ∧ b6 ≠ b7 ∧ b6 ≠ b9 ∧ b7 ≠ b9
  aN : b9 ∉ blkOf adN
  aF : ∀ i, b9 ∉ g.F i
variable {Wb : World} {Fp : List Nat} {b5 b6 b7 b9 : Nat} {leave : Int} {L : List Str} {adN : Option Addr} {capN k : Nat} {W : World}
theorem WkI.nc {W' : World} {B : Nat} (h : WkI w0 Wb Fp b5 b6 b7 b9 leave L adN capN g k W) (hn : Nc B W W') (hB : Wb.heap.size ≤ B) : WkI w0 Wb Fp b5 b6 b7 b9 leave L adN capN g k W' :=
  ⟨hn.blk h.n5, hn.blk h.n6, hn.blk h.n7, hn.blk h.n9, hn.own h.own, h.ds.nc hn (fun i b hb => Nat.lt_of_lt_of_le (h.Fl i b hb) hB), hn.kp h.kp (Nat.le_trans h.wB.1 hB),
    fun b hb => (hn.at_lt (Nat.lt_of_lt_of_le (h.fB b hb).1 hB) (Nat.lt_of_lt_of_le (h.fB b hb).1 h.sz)).trans (h.fp b hb), Nat.le_trans h.sz hn.size, h.Fl, h.fB, h.wB, h.ne, h.aN, h.aF⟩
theorem WkI.set {W' : World} {k' : Nat} (h : WkI w0 Wb Fp b5 b6 b7 b9 leave L adN capN g k W) (hu : Upd W b9 (.cells ⟨[I (k' : Int)]⟩ 3 (0, 0)) W') : WkI w0 Wb Fp b5 b6 b7 b9 leave L adN capN g k' W' :=
  ⟨hu.kept (by have := h.ne; omega) h.n5, hu.kept (by have := h.ne; omega) h.n6, hu.kept (by have := h.ne; omega) h.n7, hu.blk, h.own.upd hu h.aN, h.ds.frame (hu.kp [b9] (.inl (by simp))) (fun i b hb hm => by
      simp only [List.mem_singleton] at hm; subst hm; exact h.aF i hb), h.kp.since (hu.kp [b9] (.inl (by simp))) (by simp; exact h.wB.2),
    fun b hb => (hu.other b (h.fB b hb).2).trans (h.fp b hb), Nat.le_trans h.sz hu.size, h.Fl, h.fB, h.wB, h.ne, h.aN, h.aF⟩
theorem WkI.read {W' : World} (h : WkI w0 Wb Fp b5 b6 b7 b9 leave L adN capN g k W) {i : Nat} {s : Str} (hs : L[i]? = some s) : ∃ b off, adN = some ⟨b, off, none⟩ ∧ W.cell? ⟨b, off + i, none⟩ = some (S s) := by
  have hl := (List.getElem?_eq_some_iff.1 hs).1
  obtain ⟨b, off, h1, _, hc⟩ := h.own.read.at_ (by simp; omega)
  exact ⟨b, off, h1, hc i (S s) (by rw [List.getElem?_map, hs]; rfl)⟩
end Go.Vc
