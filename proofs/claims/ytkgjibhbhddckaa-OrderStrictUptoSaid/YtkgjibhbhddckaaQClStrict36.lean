/- Outermost loops over functions in a function whose results lie in memory. -/
import Derived.Test.YtkgjibhbhddckaaQClStrict6
import Derived.Test.YtkgjibhbhddckaaQClStrict10
namespace Go.Vc
open Go
variable {P : Program} {n : Nat} {w : World}
theorem leaves_of_shutC {fn : Func} {tmps : Array Value} {Q : World → Prop} {RE : Ending → World → Prop} (hv : ∀ w, Q w → ∃ v, (results fn tmps).run P w = .ok v w ∧ RE (.returned v) w) :
    ∀ (ds : List Nat) (w : World), Shut Q ds w → LeavesInM (FW none) 0 P fn tmps RE (ds.map markOf) .returning w
  | [], w, h => by
    obtain ⟨v, h1, h2⟩ := hv w h
    exact ⟨v, h1, h2⟩
  | D :: ds, w, h => by
    refine ⟨by simp, .inl ⟨D, w.putObj D (.deferred none), rfl, run_takeDeferred h.1, ?_⟩⟩
    exact leaves_of_shutC hv ds _ (h.2 _ (upd_putObj (Array.getElem?_eq_some_iff.1 h.1).1))
theorem enterMC {f : FuncId} {fn : Func} {c : Code} {vs : List Value} {R : Value → World → Prop} (hE : Enters P f) (hf : P.funcs[f]? = some fn) (hb : fn.body = some c) (hn : fn.ntmps = n) {rs : List ResultVar} (hr : fn.results = ⟨rs⟩)
    (hl : Nat.ble vs.length n = true) (h : WpM P n c (fun ds e w => Shut (fun w => ∃ us, resC P e w rs us ∧ R (tupV us) w) ds w) [] (fun ds e w => Shut (fun w => ∃ us, resC P e w rs us ∧ R (tupV us) w) ds w) [] (nth vs) w) : Ret P f vs w R := by
  refine ⟨hE, callsFW' (callsIn_of_wp_marks (n := 0) hf hb trivial ?_)⟩
  rw [hn]
  refine wpIn_mono (h _ (fit_enter vs n (Nat.le_of_ble_eq_true hl))) ?_
  intro x a w hq
  have fin : (∃ ds e, Fit n (ds.map markOf) a e ∧ Shut (fun w => ∃ us, resC P e w rs us ∧ R (tupV us) w) ds w) → LeavesInM (FW none) 0 P fn a.tmps (fun x w' => ∃ v, x = .returned v ∧ R v w') a.defers .returning w := by
    rintro ⟨ds, e, hfit, hS⟩
    rw [hfit.defers]
    exact leaves_of_shutC (fun w hq => by obtain ⟨us, h1, h2⟩ := hq; exact ⟨tupV us, results_resC hr hfit h1, _, rfl, h2⟩) ds w hS
  cases x with
  | normal => exact fin hq
  | ret => exact fin hq
  | exit id => obtain ⟨J, ds, e, hJ, _⟩ := hq; cases hJ
  | goto l => exact hq.elim
  | panic c => exact hq.elim
  | outgrown => exact hq.elim
section
variable {e : Env} {KM : MPost} {XM : List (Nat × MPost)} {RM : MPost} {ds : List Nat}
theorem m_range2 {g : Operand} {ps : List Nat} {assign body : Code} {f : FuncId} {lb : List Value} {Fp : List Nat} {α : Type} {enc : α → List Value} {xs : List α} (hI : Iter P f lb Fp enc xs w) (ids : List Nat) (I : List α → World → Prop) (Ix : Code → List α → World → Prop)
    (hg : ev e g = .func (.func f) #[] ⟨lb⟩) (hps : ps.all (fun p => Nat.blt p n) = true) (henc : ∀ x, (enc x).length = ps.length)
    (hI' : ∀ pre w1 w2, I pre w1 → Nc w.heap.size w1 w2 → I pre w2) (hIx' : ∀ c pre w1 w2, Ix c pre w1 → Nc w.heap.size w1 w2 → Ix c pre w2) (h0 : I [] w)
    (round : ∀ D l r pre x post W, xs = pre ++ x :: post → D = w.heap.size → l = w.heap.size + 1 → I pre W → Wp (some l) P n assign (fun e1 W1 => Kp [] W W1 ∧ ∀ W2, Nc w.heap.size W1 W2 → Keeps D l r Fp w W2 →
      Wp (some l) P n body (fun _ W3 => I (pre ++ [x]) W3 ∧ Keeps D l r Fp w W3) (exitsI D l r Fp w Ix (pre ++ [x]) ids) (fun _ W3 => Ix .ret (pre ++ [x]) W3 ∧ Keeps D l r Fp w W3) e1 W2) [] (fun _ _ => False) (over e ps.reverse (enc x).reverse) W)
    (done : ∀ D W, D = w.heap.size → I xs W → W.heap[D]? = some (.deferred (some [])) → KM (D :: ds) e W)
    (stop : ∀ D c pre post W, D = w.heap.size → (c = .ret ∨ ∃ i, i ∈ ids ∧ c = .exit i) → xs = pre ++ post → Ix c pre W → W.heap[D]? = some (.deferred (some [])) → WpM P n c KM XM RM (D :: ds) e W) :
    WpM P n (.rangeFunc g ⟨ps⟩ assign body) KM XM RM ds e w := by
  intro a ha
  refine wpIn_rangeFunc fun fn _ => ?_
  let D := w.heap.size
  let l := w.heap.size + 1
  let r0 : Loop := { state := .ready, pending := none, fn, tmps := a.tmps, params := ⟨ps⟩, assign, body, defers := w.heap.size }
  let w1 := (w.alloc (.deferred (some []))).alloc (.loop r0)
  have u1 : Upd w D (.deferred (some [])) (w.alloc (.deferred (some []))) := upd_alloc w _
  have u2 : Upd (w.alloc (.deferred (some []))) l (.loop r0) w1 := by
    have := upd_alloc (w.alloc (.deferred (some []))) (.loop r0)
    rwa [World.size_alloc] at this
  have n1 : Nc w.heap.size w w1 := (u1.nc (Nat.le_refl _) (fun x hx => by have := (Array.getElem?_eq_some_iff.1 hx).1; omega)).trans (u2.nc (by show _ ≤ w.heap.size + 1; omega) (fun x hx => by have := (Array.getElem?_eq_some_iff.1 hx).1; rw [World.size_alloc] at this; omega))
  have hl1 : w1.heap[l]? = some (.loop r0) := u2.at_
  have hD1 : w1.heap[D]? = some (.deferred (some [])) := u2.keep (by show w.heap.size ≠ w.heap.size + 1; omega) u1.at_
  have hret := hI.2 l w1 (fun pre W => I pre W ∧ W.heap[l]? = some (.loop r0) ∧ W.heap[D]? = some (.deferred (some [])) ∧ ∀ b, b ∈ Fp → W.heap[b]? = w.heap[b]?)
    (fun pre W => ∃ c, Ix c pre W ∧ (c = .ret ∨ ∃ i, i ∈ ids ∧ c = .exit i) ∧ (∃ r', W.heap[l]? = some (.loop r') ∧ r'.state = .done ∧ r'.pending = some c) ∧ W.heap[D]? = some (.deferred (some [])))
    n1.size (fun pre W h => h.2.2.2) (fun pre W W' ⟨h1, h2, h3, h4⟩ hk => ⟨hI' _ _ _ h1 (hk.nc _), (hk.at_ l (Array.getElem?_eq_some_iff.1 h2).1 (by simp)).trans h2, (hk.at_ D (Array.getElem?_eq_some_iff.1 h3).1 (by simp)).trans h3,
      fun b hb => (hk.at_ b (by have := hI.1 b hb; have := (Array.getElem?_eq_some_iff.1 h3).1; show b < W.heap.size; have : w.heap.size < W.heap.size := (Array.getElem?_eq_some_iff.1 h3).1; omega) (by simp)).trans (h4 b hb)⟩)
    ⟨hI' _ _ _ h0 n1, hl1, hD1, fun b hb => n1.at_lt (hI.1 b hb) (hI.1 b hb)⟩
    (fun pre x post W hx ⟨h1, h2, h3, h4⟩ => by
      refine y_round (n := n) (e := e) (ps := ps) ids h2 rfl ha.size ha.get rfl (fun p hp => by have := List.all_eq_true.1 hps p hp; simpa [Nat.blt_eq] using this) (henc x) ?_
      refine (round D l { r0 with state := .busy } pre x post W hx rfl rfl h1).monoK ?_
      rintro e1 W1 ⟨hk1, hb⟩
      have h2' : W1.heap[l]? = _ := (hk1.at_ l (Array.getElem?_eq_some_iff.1 h2).1 (by simp)).trans h2
      have h3' : W1.heap[D]? = _ := (hk1.at_ D (Array.getElem?_eq_some_iff.1 h3).1 (by simp)).trans h3
      have h4' : ∀ b, b ∈ Fp → W1.heap[b]? = w.heap[b]? := fun b hb => (hk1.at_ b (by have q1 := hI.1 b hb; have q2 := (Array.getElem?_eq_some_iff.1 h3).1; have q3 : w.heap.size < W.heap.size := q2; omega) (by simp)).trans (h4 b hb)
      refine ⟨h2', fun W2 hu => ?_⟩
      have n2 : Nc w.heap.size W1 W2 := hu.nc (by show _ ≤ w.heap.size + 1; omega) (fun x hx => by rw [h2'] at hx; cases hx; rfl)
      have hne : D ≠ l := by show w.heap.size ≠ w.heap.size + 1; omega
      refine (hb W2 n2 ⟨hu.at_, (hu.other D hne).trans h3', fun b hb => (hu.other b (by have := hI.1 b hb; show b ≠ w.heap.size + 1; omega)).trans (h4' b hb)⟩).mono ?_ ?_ ?_
      · rintro e3 W3 ⟨hi, hk⟩
        refine ⟨_, hk.loop, fun W4 hu4 => .inl ⟨rfl, hI' _ _ _ hi (hu4.nc (by show _ ≤ w.heap.size + 1; omega) (fun x hx => by rw [hk.loop] at hx; cases hx; rfl)), hu4.at_, (hu4.other D hne).trans hk.shut, fun b hb => (hu4.other b (by have := hI.1 b hb; show b ≠ w.heap.size + 1; omega)).trans (hk.priv b hb)⟩⟩
      · intro i J hJ
        obtain ⟨him, rfl⟩ := look_exitsI hJ
        refine ⟨_, exits_mem him, ?_⟩
        rintro e3 W3 ⟨hi, hk⟩
        exact ⟨_, hk.loop, fun W4 hu4 => .inr ⟨rfl, .exit i, hIx' _ _ _ _ hi (hu4.nc (by show _ ≤ w.heap.size + 1; omega) (fun x hx => by rw [hk.loop] at hx; cases hx; rfl)), .inr ⟨i, him, rfl⟩, ⟨_, hu4.at_, rfl, rfl⟩, (hu4.other D hne).trans hk.shut⟩⟩
      · rintro e3 W3 ⟨hi, hk⟩
        exact ⟨_, hk.loop, fun W4 hu4 => .inr ⟨rfl, .ret, hIx' _ _ _ _ hi (hu4.nc (by show _ ≤ w.heap.size + 1; omega) (fun x hx => by rw [hk.loop] at hx; cases hx; rfl)), .inl rfl, ⟨_, hu4.at_, rfl, rfl⟩, (hu4.other D hne).trans hk.shut⟩⟩)
    (fun pre W W' ⟨c, h1, h2, ⟨r', h3, h4, h5⟩, h6⟩ hk => ⟨c, hIx' _ _ _ _ h1 (hk.nc _), h2, ⟨r', (hk.at_ l (Array.getElem?_eq_some_iff.1 h3).1 (by simp)).trans h3, h4, h5⟩, (hk.at_ D (Array.getElem?_eq_some_iff.1 h6).1 (by simp)).trans h6⟩)
  refine ⟨l, [markOf D], w1, { target := .fn (.func f) ⟨lb⟩, args := #[yv l] }, w1, f, ⟨yv l :: lb⟩, w1, run_enterLoop_outer fn a.tmps ⟨ps⟩ assign body, ?_, fun _ _ => trivial, ?_, (fun h => by cases h), callsFW (hret.2.mono ?_)⟩
  · show (resolve a.eval (rangeCall g l) 0).run P w1 = .ok { target := .fn (.func f) ⟨lb⟩, args := #[yv l] } w1
    simp only [resolve, rangeCall, ha.eval, hg, Deferred.ofValue, Sem.run_pure]
    simp [ev]
  · have := hret.1 ⟨yv l :: lb⟩ w1
    simp only [invoke]
    have e1 : #[yv l] ++ (⟨lb⟩ : Array Value) = ⟨yv l :: lb⟩ := by apply Array.ext'; simp
    rw [e1]
    exact this
  · rintro x W ⟨v, rfl, hq⟩
    have ha' : Fit n ((D :: ds).map markOf) { a with defers := [markOf D] ++ a.defers } e := ⟨ha.size, ha.get, by show markOf D :: a.defers = _; rw [ha.defers]; rfl⟩
    have hne : D ≠ l := by show w.heap.size ≠ w.heap.size + 1; omega
    rcases hq with ⟨h1, h2, h3, h4⟩ | ⟨pre, post, hx, c, h1, h2, ⟨r', h3, h4, h5⟩, h6⟩
    · refine ⟨_, _, run_endLoop h2 (by intro h; cases h), ?_⟩
      have hu := upd_putObj (o := .loop { r0 with state := .exhausted }) (Array.getElem?_eq_some_iff.1 h2).1
      exact ⟨D :: ds, e, ha', done D _ rfl (hI' _ _ _ h1 (hu.nc (by show _ ≤ w.heap.size + 1; omega) (fun x hx => by rw [h2] at hx; cases hx; rfl))) ((hu.other D hne).trans h3)⟩
    · refine ⟨some c, W.putObj l (.loop { r' with state := .exhausted }), (by rw [← h5]; exact run_endLoop h3 (by rw [h4]; intro h; cases h)), ?_⟩
      have hu := upd_putObj (o := .loop { r' with state := .exhausted }) (Array.getElem?_eq_some_iff.1 h3).1
      exact stop D c pre post _ rfl h2 hx (hIx' _ _ _ _ h1 (hu.nc (by show _ ≤ w.heap.size + 1; omega) (fun x hx => by rw [h3] at hx; cases hx; rfl))) ((hu.other D hne).trans h6) _ ha'
end
end Go.Vc
