/- Outermost loops over functions in a function whose results lie in memory. -/
import Derived.Test.YtkgjibhbhddckaaDoorQClKeeps6
import Derived.Test.YtkgjibhbhddckaaDoorQClKeeps19
import Derived.Test.YtkgjibhbhddckaaDoorQClKeeps37
import Derived.Test.YtkgjibhbhddckaaDoorQClKeeps32
namespace Go.Vc
open Go
variable {P : Program} {n : Nat} {w : World}
theorem leaves_of_shutC {fn : Func} {tmps : Array Value} {Q : World → Prop} {RE : Ending → World → Prop} (hv : ∀ w, Q w → ∃ v, (results fn tmps).run P w = .ok v w ∧ RE (.returned v) w) :
    ∀ (ds : List Nat) (w : World), Shut Q ds w → LeavesInM (FW none) 0 P fn tmps RE (ds.map markOf) .returning w
  | [], w, h => by
    obtain ⟨v, h1, h2⟩ := hv w h
    exact ⟨v, h1, h2⟩
  | D :: ds, w, h => by
    refine ⟨by simp, .inl ⟨D, w.putObj D (.deferred none), rfl, run_takeDeferred h.1, ?_⟩⟩
    exact leaves_of_shutC hv ds _ (h.2 _ (upd_putObj (Array.getElem?_eq_some_iff.1 h.1).1))
theorem enterMC {f : FuncId} {fn : Func} {c : Code} {vs : List Value} {R : Value → World → Prop} (hE : Enters P f) (hf : P.funcs[f]? = some fn) (hb : fn.body = some c) (hn : fn.ntmps = n) {rs : List ResultVar} (hr : fn.results = ⟨rs⟩)
    (hl : Nat.ble vs.length n = true) (h : WpM P n c (fun ds e w => Shut (fun w => ∃ us, resC P e w rs us ∧ R (tupV us) w) ds w) [] (fun ds e w => Shut (fun w => ∃ us, resC P e w rs us ∧ R (tupV us) w) ds w) [] (nth vs) w) : Ret P f vs w R := by
  refine ⟨hE, callsFW' (callsIn_of_wp_marks (n := 0) hf hb trivial ?_)⟩
  rw [hn]
  refine wpIn_mono (h _ (fit_enter vs n (Nat.le_of_ble_eq_true hl))) ?_
  intro x a w hq
  have fin : (∃ ds e, Fit n (ds.map markOf) a e ∧ Shut (fun w => ∃ us, resC P e w rs us ∧ R (tupV us) w) ds w) → LeavesInM (FW none) 0 P fn a.tmps (fun x w' => ∃ v, x = .returned v ∧ R v w') a.defers .returning w := by
    rintro ⟨ds, e, hfit, hS⟩
    rw [hfit.defers]
    exact leaves_of_shutC (fun w hq => by obtain ⟨us, h1, h2⟩ := hq; exact ⟨tupV us, results_resC hr hfit h1, _, rfl, h2⟩) ds w hS
  cases x with
  | normal => exact fin hq
  | ret => exact fin hq
  | exit id => obtain ⟨J, ds, e, hJ, _⟩ := hq; cases hJ
  | goto l => exact hq.elim
  | panic c => exact hq.elim
  | outgrown => exact hq.elim
section
variable {e : Env} {KM : MPost} {XM : List (Nat × MPost)} {RM : MPost} {ds : List Nat}
theorem m_range2 {g : Operand} {ps : List Nat} {assign body : Code} {f : FuncId} {lb : List Value} {Fp : List Nat} {α : Type} {enc : α → List Value} {xs : List α} (hI : Iter P f lb Fp enc xs w) (ids : List Nat) (I : List α → World → Prop) (Ix : Code → List α → World → Prop)
    (hg : ev e g = .func (.func f) #[] ⟨lb⟩) (hps : ps.all (fun p => Nat.blt p n) = true) (henc : ∀ x, (enc x).length = ps.length)
    (hI' : ∀ pre w1 w2, I pre w1 → Nc w.heap.size w1 w2 → I pre w2) (hIx' : ∀ c pre w1 w2, Ix c pre w1 → Nc w.heap.size w1 w2 → Ix c pre w2) (h0 : I [] w)
    (round : ∀ D l r pre x post W, xs = pre ++ x :: post → D = w.heap.size → l = w.heap.size + 1 → I pre W → Wp (some l) P n assign (fun e1 W1 => Kp [] W W1 ∧ ∀ W2, Nc w.heap.size W1 W2 → Keeps D l r Fp w W2 →
      Wp (some l) P n body (fun _ W3 => I (pre ++ [x]) W3 ∧ Keeps D l r Fp w W3) (exitsI D l r Fp w Ix (pre ++ [x]) ids) (fun _ W3 => Ix .ret (pre ++ [x]) W3 ∧ Keeps D l r Fp w W3) e1 W2) [] (fun _ _ => False) (over e ps.reverse (enc x).reverse) W)
    (done : ∀ D W, D = w.heap.size → I xs W → W.heap[D]? = some (.deferred (some [])) → KM (D :: ds) e W)
    (stop : ∀ D c pre post W, D = w.heap.size → (c = .ret ∨ ∃ i, i ∈ ids ∧ c = .exit i) → xs = pre ++ post → Ix c pre W → W.heap[D]? = some (.deferred (some [])) → WpM P n c KM XM RM (D :: ds) e W) :
    WpM P n (.rangeFunc g ⟨ps⟩ assign body) KM XM RM ds e w := by
  intro a ha
  refine wpIn_rangeFunc fun fn _ => ?_
  let D := w.heap.size
  let l := w.heap.size + 1
  let r0 : Loop := { state := .ready, pending := none, fn, tmps := a.tmps, params := ⟨ps⟩, assign, body, defers := w.heap.size }
  let w1 := (w.alloc (.deferred (some []))).alloc (.loop r0)
  have u1 : Upd w D (.deferred (some [])) (w.alloc (.deferred (some []))) := upd_alloc w _
  have u2 : Upd (w.alloc (.deferred (some []))) l (.loop r0) w1 := by
    have := upd_alloc (w.alloc (.deferred (some []))) (.loop r0)
    rwa [World.size_alloc] at this
  have n1 : Nc w.heap.size w w1 := (u1.nc (Nat.le_refl _) (fun x hx => by have := (Array.getElem?_eq_some_iff.1 hx).1; omega)).trans (u2.nc (by show _ ≤ w.heap.size + 1; omega) (fun x hx => by have := (Array.getElem?_eq_some_iff.1 hx).1; rw [World.size_alloc] at this; omega))
  have hl1 : w1.heap[l]? = some (.loop r0) := u2.at_
  have hD1 : w1.heap[D]? = some (.deferred (some [])) := u2.keep (by show w.heap.size ≠ w.heap.size + 1; omega) u1.at_
  have hret := hI.2 l w1 (fun pre W => I pre W ∧ W.heap[l]? = some (.loop r0) ∧ W.heap[D]? = some (.deferred (some [])) ∧ ∀ b, b ∈ Fp → W.heap[b]? = w.heap[b]?)
    (fun pre W => ∃ c, Ix c pre W ∧ (c = .ret ∨ ∃ i, i ∈ ids ∧ c = .exit i) ∧ (∃ r', W.heap[l]? = some (.loop r') ∧ r'.state = .done ∧ r'.pending = some c) ∧ W.heap[D]? = some (.deferred (some [])))
    n1.size (fun pre W h => h.2.2.2) (fun pre W W' ⟨h1, h2, h3, h4⟩ hk => ⟨hI' _ _ _ h1 (hk.nc _), (hk.at_ l (Array.getElem?_eq_some_iff.1 h2).1 (by simp)).trans h2, (hk.at_ D (Array.getElem?_eq_some_iff.1 h3).1 (by simp)).trans h3,
      fun b hb => (hk.at_ b (by have := hI.1 b hb; have := (Array.getElem?_eq_some_iff.1 h3).1; show b < W.heap.size; have : w.heap.size < W.heap.size := (Array.getElem?_eq_some_iff.1 h3).1; omega) (by simp)).trans (h4 b hb)⟩)
    ⟨hI' _ _ _ h0 n1, hl1, hD1, fun b hb => n1.at_lt (hI.1 b hb) (hI.1 b hb)⟩
    (fun pre x post W hx ⟨h1, h2, h3, h4⟩ => by
      refine y_round (n := n) (e := e) (ps := ps) ids h2 rfl ha.size ha.get rfl (fun p hp => by have := List.all_eq_true.1 hps p hp; simpa [Nat.blt_eq] using this) (henc x) ?_
      refine (round D l { r0 with state := .busy } pre x post W hx rfl rfl h1).monoK ?_
      rintro e1 W1 ⟨hk1, hb⟩
      have h2' : W1.heap[l]? = _ := (hk1.at_ l (Array.getElem?_eq_some_iff.1 h2).1 (by simp)).trans h2
      have h3' : W1.heap[D]? = _ := (hk1.at_ D (Array.getElem?_eq_some_iff.1 h3).1 (by simp)).trans h3
      have h4' : ∀ b, b ∈ Fp → W1.heap[b]? = w.heap[b]? := fun b hb => (hk1.at_ b (by have q1 := hI.1 b hb; have q2 := (Array.getElem?_eq_some_iff.1 h3).1; have q3 : w.heap.size < W.heap.size := q2; omega) (by simp)).trans (h4 b hb)
      refine ⟨h2', fun W2 hu => ?_⟩
      have n2 : Nc w.heap.size W1 W2 := hu.nc (by show _ ≤ w.heap.size + 1; omega) (fun x hx => by rw [h2'] at hx; cases hx; rfl)
      have hne : D ≠ l := by show w.heap.size ≠ w.heap.size + 1; omega
      refine (hb W2 n2 ⟨hu.at_, (hu.other D hne).trans h3', fun b hb => (hu.other b (by have := hI.1 b hb; show b ≠ w.heap.size + 1; omega)).trans (h4' b hb)⟩).mono ?_ ?_ ?_
      · rintro e3 W3 ⟨hi, hk⟩
        refine ⟨_, hk.loop, fun W4 hu4 => .inl ⟨rfl, hI' _ _ _ hi (hu4.nc (by show _ ≤ w.heap.size + 1; omega) (fun x hx => by rw [hk.loop] at hx; cases hx; rfl)), hu4.at_, (hu4.other D hne).trans hk.shut, fun b hb => (hu4.other b (by have := hI.1 b hb; show b ≠ w.heap.size + 1; omega)).trans (hk.priv b hb)⟩⟩
      · intro i J hJ
        obtain ⟨him, rfl⟩ := look_exitsI hJ
        refine ⟨_, exits_mem him, ?_⟩
        rintro e3 W3 ⟨hi, hk⟩
        exact ⟨_, hk.loop, fun W4 hu4 => .inr ⟨rfl, .exit i, hIx' _ _ _ _ hi (hu4.nc (by show _ ≤ w.heap.size + 1; omega) (fun x hx => by rw [hk.loop] at hx; cases hx; rfl)), .inr ⟨i, him, rfl⟩, ⟨_, hu4.at_, rfl, rfl⟩, (hu4.other D hne).trans hk.shut⟩⟩
      · rintro e3 W3 ⟨hi, hk⟩
        exact ⟨_, hk.loop, fun W4 hu4 => .inr ⟨rfl, .ret, hIx' _ _ _ _ hi (hu4.nc (by show _ ≤ w.heap.size + 1; omega) (fun x hx => by rw [hk.loop] at hx; cases hx; rfl)), .inl rfl, ⟨_, hu4.at_, rfl, rfl⟩, (hu4.other D hne).trans hk.shut⟩⟩)
    (fun pre W W' ⟨c, h1, h2, ⟨r', h3, h4, h5⟩, h6⟩ hk => ⟨c, hIx' _ _ _ _ h1 (hk.nc _), h2, ⟨r', (hk.at_ l (Array.getElem?_eq_some_iff.1 h3).1 (by simp)).trans h3, h4, h5⟩, (hk.at_ D (Array.getElem?_eq_some_iff.1 h6).1 (by simp)).trans h6⟩)
  refine ⟨l, [markOf D], w1, { target := .fn (.func f) ⟨lb⟩, args := #[yv l] }, w1, f, ⟨yv l :: lb⟩, w1, run_enterLoop_outer fn a.tmps ⟨ps⟩ assign body, ?_, fun _ _ => trivial, ?_, (fun h => by cases h), callsFW (hret.2.mono ?_)⟩
  · show (resolve a.eval (rangeCall g l) 0).run P w1 = .ok { target := .fn (.func f) ⟨lb⟩, args := #[yv l] } w1
    simp only [resolve, rangeCall, ha.eval, hg, Deferred.ofValue, Sem.run_pure]
    simp [ev]
  · have := hret.1 ⟨yv l :: lb⟩ w1
    simp only [invoke]
    have e1 : #[yv l] ++ (⟨lb⟩ : Array Value) = ⟨yv l :: lb⟩ := by apply Array.ext'; simp
    rw [e1]
    exact this
  · rintro x W ⟨v, rfl, hq⟩
    have ha' : Fit n ((D :: ds).map markOf) { a with defers := [markOf D] ++ a.defers } e := ⟨ha.size, ha.get, by show markOf D :: a.defers = _; rw [ha.defers]; rfl⟩
    have hne : D ≠ l := by show w.heap.size ≠ w.heap.size + 1; omega
    rcases hq with ⟨h1, h2, h3, h4⟩ | ⟨pre, post, hx, c, h1, h2, ⟨r', h3, h4, h5⟩, h6⟩
    · refine ⟨_, _, run_endLoop h2 (by intro h; cases h), ?_⟩
      have hu := upd_putObj (o := .loop { r0 with state := .exhausted }) (Array.getElem?_eq_some_iff.1 h2).1
      exact ⟨D :: ds, e, ha', done D _ rfl (hI' _ _ _ h1 (hu.nc (by show _ ≤ w.heap.size + 1; omega) (fun x hx => by rw [h2] at hx; cases hx; rfl))) ((hu.other D hne).trans h3)⟩
    · refine ⟨some c, W.putObj l (.loop { r' with state := .exhausted }), (by rw [← h5]; exact run_endLoop h3 (by rw [h4]; intro h; cases h)), ?_⟩
      have hu := upd_putObj (o := .loop { r' with state := .exhausted }) (Array.getElem?_eq_some_iff.1 h3).1
      exact stop D c pre post _ rfl h2 hx (hIx' _ _ _ _ h1 (hu.nc (by show _ ≤ w.heap.size + 1; omega) (fun x hx => by rw [h3] at hx; cases hx; rfl))) ((hu.other D hne).trans h6) _ ha'
end
end Go.Vc
/- order: best, First, Pair. -/
namespace Go.Vc
open Go Go.Proofs
set_option maxRecDepth 10000
variable {w : World}
def bestGo (wb : P3 → Bool) : Option P3 → List P3 → Option P3
  | acc, [] => acc
  | acc, x :: r => match acc with
    | some b => if b.2.2 < x.2.2 then some b else bestGo wb (if wb x = true then some x else some b) r
    | none => bestGo wb (if wb x = true then some x else none) r
def stopB (acc : Option P3) (x : P3) : Bool := match acc with
  | some b => decide (b.2.2 < x.2.2)
  | none => false
section
variable {p : Option Addr} {F : List Nat} {E : List Ev} {R : List Int}
structure BestI (w W : World) (b4 b6 b7 bw : Nat) (fv : Value) (acc : Option P3) : Prop where
  b6_ : Blk W b6 (pairC (acc.getD (0, 0, 0))) 136
  b7_ : Blk W b7 [.bool acc.isSome] 4
  bw_ : Blk W bw [fv] 175
  b4_ : Blk W b4 [I 0, I 0, I 0] 136
  kp : Kp [] w W
theorem BestI.nc {W W' : World} {b4 b6 b7 bw B : Nat} {fv : Value} {acc : Option P3} (h : BestI w W b4 b6 b7 bw fv acc) (hn : Nc B W W') (hB : w.heap.size ≤ B) : BestI w W' b4 b6 b7 bw fv acc :=
  ⟨hn.blk h.b6_, hn.blk h.b7_, hn.blk h.bw_, hn.blk h.b4_, hn.kp h.kp hB⟩
theorem BestI.kp0 {W W' : World} {b4 b6 b7 bw : Nat} {fv : Value} {acc : Option P3} (h : BestI w W b4 b6 b7 bw fv acc) (hk : Kp [] W W') : BestI w W' b4 b6 b7 bw fv acc :=
  ⟨hk.blk (by simp) h.b6_, hk.blk (by simp) h.b7_, hk.blk (by simp) h.bw_, hk.blk (by simp) h.b4_, h.kp.trans hk⟩
end
end Go.Vc
/- order: First; the law's own small functions; lives. -/
namespace Go.Vc
open Go Go.Proofs
set_option maxRecDepth 10000
variable {w : World}
section
variable {g : OrG} {E : List Ev} {R : List Int}
theorem OrAt.lt (h : OrAt w g E R) : ∀ b, b ∈ g.F → b < w.heap.size := h.fl
noncomputable def firstV (E : List Ev) (R : List Int) : Option P3 := bestGo (fun _ => true) none (racesN E R E.length)
end
/-! ### lives -/
def sO : Shp := ⟨2, 1, 0, 1, []⟩
def evO1 : List Ev := [⟨7, 0, 1⟩, ⟨2, 0, 0⟩, ⟨1, 1, 0⟩]
def evO2 : List Ev := [⟨7, 0, 1⟩, ⟨5, 0, 0⟩, ⟨2, 0, 0⟩, ⟨6, 0, 0⟩, ⟨5, 1, 0⟩, ⟨1, 1, 0⟩]
def R1 : List Int := rnds sO evO1 3
def R2 : List Int := rnds sO evO2 6
theorem bef_next {E : List Ev} {R : List Int} {i : Nat} (h : befI E R i (i + 1 : Nat) = true) : lk E R i (i + 1) := by
  have h := befI_nat.1 h
  cases h with
  | one h => exact h
  | more h1 h2 => have := lk_lt h1; have := ch_lt h2; omega
theorem b12 : befI evO1 R1 (1 : Nat) (2 : Nat) = false := by
  rw [Bool.eq_false_iff]
  intro h
  exact absurd (bef_next h) (by decide)
end Go.Vc
/- order: Races, gone, Pair. -/
namespace Go.Vc
open Go Go.Proofs
set_option maxRecDepth 10000
variable {w : World}
def prsC (l : List P3) : List Value := l.flatMap pairC
theorem prsC_snoc (l : List P3) (x : P3) : prsC (l ++ [x]) = prsC l ++ pairC x := by simp [prsC]
/-- a list in the making, kept in a box; its blocks lie behind B0 -/
structure AccI (w W : World) (B0 b5 : Nat) (ST T : TypeId) (sz : Nat) (n : Nat) (xs : List Value) : Prop where
  hdr : ∃ ad cap, Blk W b5 [.slice ad n cap] ST ∧ OwnS W T sz ad n cap xs ∧ ∀ b, b ∈ blkOf ad → B0 ≤ b
  fresh : w.heap.size ≤ b5
  lt : b5 < B0
  kp : Kp [] w W
section
variable {W W' : World} {B0 b5 n sz : Nat} {ST T : TypeId} {xs : List Value}
theorem AccI.nc {B : Nat} (h : AccI w W B0 b5 ST T sz n xs) (hn : Nc B W W') (hB : w.heap.size ≤ B) : AccI w W' B0 b5 ST T sz n xs := by
  obtain ⟨ad, cap, h1, h2, h3⟩ := h.hdr
  exact ⟨⟨ad, cap, hn.blk h1, hn.own h2, h3⟩, h.fresh, h.lt, hn.kp h.kp hB⟩
theorem AccI.kp0 (h : AccI w W B0 b5 ST T sz n xs) (hk : Kp [] W W') : AccI w W' B0 b5 ST T sz n xs := by
  obtain ⟨ad, cap, h1, h2, h3⟩ := h.hdr
  exact ⟨⟨ad, cap, hk.blk (by simp) h1, h2.kp hk (by simp), h3⟩, h.fresh, h.lt, h.kp.trans hk⟩
/-- one more: behind the append and the store -/
theorem AccI.push {W1 W2 W3 : World} {ad ad' : Option Addr} {cap cap' m : Nat} {ys : List Value} (h : AccI w W B0 b5 ST T sz n xs) (hB : Blk W b5 [.slice ad n cap] ST) (hB0 : B0 ≤ W.heap.size) (k1 : Kp [] W W1) (ho : OwnS W2 T sz ad' m cap' ys) (k2 : Kp (blkOf ad) W1 W2) (hn : ∀ b, b ∈ blkOf ad' → b ∈ blkOf ad ∨ W1.heap.size ≤ b)
    (hu : Upd W2 b5 (.cells ⟨[.slice ad' m cap']⟩ ST (0, 0)) W3) : AccI w W3 B0 b5 ST T sz m ys ∧ Kp (b5 :: blkOf ad) W W3 := by
  obtain ⟨ad0, cap0, h1, h2, h3⟩ := h.hdr
  have e1 : Value.slice ad n cap = Value.slice ad0 n cap0 := by
    have := h1.symm.trans hB
    simp at this
    simp [this.1, this.2]
  simp only [Value.slice.injEq] at e1
  obtain ⟨rfl, -, rfl⟩ := e1
  have hlt := h.lt
  have s1 := k1.size
  have hn' : ∀ b, b ∈ blkOf ad' → B0 ≤ b := fun b hb => by
    rcases hn b hb with q | q
    · exact h3 b q
    · omega
  have kk : Kp (b5 :: blkOf ad) W W3 := ((k1.mono (by simp)).trans (k2.mono (fun b hb => by simp [hb]))).trans (hu.kp _ (.inl (by simp)))
  refine ⟨⟨⟨ad', cap', hu.blk, ho.upd hu (fun hm => by have := hn' _ hm; omega), hn'⟩, h.fresh, h.lt, ?_⟩, kk⟩
  exact h.kp.since kk (fun b hb => by
    rcases List.mem_cons.1 hb with rfl | hb
    · exact h.fresh
    · have := h3 b hb; have := h.fresh; omega)
end
/-- the races on a variable -/
def onV (v : Int) (l : List P3) : List P3 := l.filter fun x => decide (x.1 = v)
theorem onV_snoc (v : Int) (l : List P3) (x : P3) : onV v (l ++ [x]) = onV v l ++ (if x.1 = v then [x] else []) := by
  unfold onV
  rw [List.filter_append]
  congr 1
  by_cases h : x.1 = v <;> simp [h]
theorem onV_le (v : Int) (l : List P3) : (onV v l).length ≤ l.length := List.length_filter_le _ _
theorem racesJ_le (E : List Ev) (R : List Int) (j i : Nat) : (racesJ E R j i).length ≤ i := by
  unfold racesJ
  exact Nat.le_trans (List.length_filterMap_le _ _) (by simp)
theorem racesN_le (E : List Ev) (R : List Int) : ∀ n, (racesN E R n).length ≤ n * n
  | 0 => by simp [racesN]
  | n + 1 => by
    rw [racesN_succ, List.length_append]
    have h1 := racesN_le E R n
    have h2 := racesJ_le E R n n
    have : (n + 1) * (n + 1) = n * n + 2 * n + 1 := by rw [Nat.add_mul, Nat.mul_add]; omega
    omega
theorem racesN_small {E : List Ev} (R : List Int) (h : E.length ≤ 2048) : (racesN E R E.length).length ≤ 4194304 := by
  have := racesN_le E R E.length
  have h2 : E.length * E.length ≤ 2048 * 2048 := Nat.mul_le_mul h h
  omega
section
variable {p : Option Addr} {F : List Nat} {E : List Ev} {R : List Int}
set_option maxHeartbeats 6400000 in
theorem xRaces_ret (h : OX w p F E R) (v : Int) : Ret Tryd.prog 29 [.pointer p, I v] w (fun r w' => ∃ ad cap, r = .slice ad (onV v (racesN E R E.length)).length cap ∧ OwnS w' 136 3 ad (onV v (racesN E R E.length)).length cap (prsC (onV v (racesN E R E.length))) ∧ Kp [] w w' ∧ ∀ b, b ∈ blkOf ad → w.heap.size ≤ b) := by
  have hw := h.lt
  have hsm := racesN_small R h.small
  refine enterMC Tryd.call29 Tryd.func29 rfl rfl rfl rfl ?_
  refine m_seq (m_of ?_)
  (repeat refine zg ?_)
  refine o_box rfl rfl rfl ?_
  intro b3 w1 hb3 hu1
  (repeat first|refine zo rfl rfl trivial ?_|refine zn ?_)
  refine m_seq (m_of ?_)
  (repeat refine zg ?_)
  refine o_alloc rfl rfl rfl rfl ?_
  intro b5 w2 hb5 hu2
  have z1 := hu1.lt
  have z2 := hu2.lt
  have k1 := hu1.kp [] (.inr (by omega))
  have k2 := hu2.kp [] (.inr (by omega))
  have s1 := k1.size
  have s2 := k2.size
  have hV2 : Blk w2 b3 [I v] 3 := k2.blk (by simp) hu1.blk
  have k02 := k1.trans k2
  (repeat refine zn ?_)
  refine m_seq (m_seq (m_of ?_))
  (repeat first|refine zg ?_|refine zo rfl rfl trivial ?_)
  refine o_call (xAll_ret (h.kp0 k02)) rfl rfl rfl ?_
  rintro q w6 ⟨bx, hseq, k6, hbx⟩
  obtain ⟨fi, lb, rfl, hI⟩ := hseq.is
  have s6 := k6.size
  have g6 : AccI w w6 (w6.heap.size + 2) b5 79 136 3 0 (prsC []) := ⟨⟨none, 0, k6.blk (by simp) hu2.blk, ownS_nil _ _ _, by simp [blkOf]⟩, by omega, by omega, k02.trans k6⟩
  have hV6 := k6.blk (by simp) hV2
  have hn5 : b5 ∉ bx :: F := fun hm => by
    rcases List.mem_cons.1 hm with q | hm
    · omega
    · have := hw b5 hm; omega
  (repeat refine zn ?_)
  refine m_block ?_
  refine m_range2 hI [] (fun pre W => AccI w W (w6.heap.size + 2) b5 79 136 3 (onV v pre).length (prsC (onV v pre)) ∧ Blk W b3 [I v] 3)
    (fun c pre W => False) rfl rfl (fun _ => rfl) ?_ ?_ ?_ ?_ ?_ ?_
  · rintro pre W1 W2 ⟨hg, hv⟩ hnc
    exact ⟨hg.nc hnc (by omega), hnc.blk hv⟩
  · rintro c pre W1 W2 hf hnc
    exact hf
  · exact ⟨g6, hV6⟩
  · rintro D l r pre x post W hx' hD hl ⟨hg, hv⟩
    (repeat refine zg ?_)
    refine o_alloc rfl rfl rfl rfl ?_
    intro b8 W1 hb8 hu8
    refine o_storeA (cs := pairC x) rfl hu8.blk (Nat.le_refl _) rfl (by simp [Value.oneCell']) rfl rfl rfl rfl ?_
    intro W1' hu8'
    have k8 : Kp [] W W1' := (hu8.kp [] (.inr (by omega))).since (hu8'.kp [b8] (.inl (by simp))) (by simp; omega)
    have hB8' : Blk W1' b8 (pairC x) 136 := hu8'.blk
    (repeat refine zn ?_)
    refine ⟨k8, ?_⟩
    intro W2 hnc hkeep
    have hB8 := hnc.blk hB8'
    have hg2 := (hg.kp0 k8).nc hnc (show w.heap.size ≤ w6.heap.size by omega)
    have hv2 := hnc.blk (k8.blk (by simp) hv)
    have hlW : l < W2.heap.size := (Array.getElem?_eq_some_iff.1 hkeep.loop).1
    have hle : (onV v pre).length ≤ 4194304 := by
      have h1 := onV_le v pre
      have h2 : pre.length ≤ (racesN E R E.length).length := by rw [hx']; simp
      omega
    have hsn := onV_snoc v pre x
    (repeat first|refine zA ?_|refine zg ?_|refine zo rfl rfl trivial ?_|refine zb ?_)
    refine o_load (v := I x.1) rfl hB8 rfl rfl rfl rfl rfl ?_
    refine o_load rfl hv2 rfl rfl rfl rfl rfl ?_
    (repeat first|refine zo rfl rfl trivial ?_|refine zn ?_)
    refine r_if (p := x.1 = v) rfl (fun hc => ?_) (fun hc => ?_)
    · rw [if_pos hc] at hsn
      obtain ⟨ad, cap, hB5, ho5, hn5'⟩ := hg2.hdr
      (repeat refine zg ?_)
      refine o_load rfl hB5 rfl rfl rfl rfl rfl ?_
      refine o_loadA (vs := pairC x) rfl (fun j v hv => by rw [Nat.zero_add]; exact hB8.cell hv) rfl rfl rfl rfl rfl rfl ?_
      refine o_buildSliceN (pairC x) rfl rfl rfl (by kernel_rfl) rfl rfl rfl rfl ?_
      intro b9 W3 hb9 hu9
      have k9 : Kp [] W2 W3 := hu9.kp [] (.inr (by omega))
      refine o_append (pairC x) rfl rfl (ho5.kp k9 (by simp)) (fun j v hv => by rw [addr_lit, Nat.zero_add]; exact hu9.blk.cell hv) rfl rfl rfl (by omega) rfl (by omega) (by simp [Value.oneCell']) (by simp only [maxLen]; omega) (by omega) rfl rfl ?_
      intro ad' cap' W4 ho4 k4 hn4
      have hB5' : Blk W4 b5 [.slice ad (onV v pre).length cap] 79 := k4.blk (fun hb => by have := hn5' _ hb; have := hg2.lt; omega) (k9.blk (by simp) hB5)
      refine o_store rfl hB5' (by simp) rfl rfl rfl rfl rfl rfl ?_
      intro W5 hu5
      have hv4 := k4.blk (fun hb => by have := hn5' _ hb; have := hg2.lt; have := hg2.fresh; omega) (k9.blk (by simp) hv2)
      obtain ⟨hg5, k5⟩ := hg2.push hB5 (by omega) k9 ho4 k4 hn4 hu5
      (repeat refine zn ?_)
      refine ⟨⟨by rw [hsn, List.length_append, prsC_snoc]; exact hg5, hu5.kept (by omega) hv4⟩, ?_⟩
      exact hkeep.kp (fun b hb => by have := hI.1 b hb; omega) k5 (fun hm => by
        rcases List.mem_cons.1 hm with q | q
        · have := hg2.lt; omega
        · have := hn5' _ q; omega) (fun hm => by
        rcases List.mem_cons.1 hm with q | q
        · have := hg2.lt; omega
        · have := hn5' _ q; omega) (fun b hb hm => by
        rcases List.mem_cons.1 hm with q | q
        · subst q; exact hn5 hb
        · have := hn5' _ q; have := hI.1 b hb; omega)
    · rw [if_neg hc, List.append_nil] at hsn
      (repeat refine zk ?_)
      exact ⟨⟨by rw [hsn]; exact hg2, hv2⟩, hkeep⟩
  · rintro D W hD ⟨hg, hv⟩ hsh
    obtain ⟨ad, cap, hB5, ho5, hn5'⟩ := hg.hdr
    refine m_seq (m_of ?_)
    (repeat refine zg ?_)
    refine o_load rfl hB5 rfl rfl rfl rfl rfl ?_
    (repeat first|refine zo rfl rfl trivial ?_|refine zn ?_)
    refine m_ret ⟨hsh, fun w8 hu8 => ?_⟩
    have kw8 : Kp [] w w8 := hg.kp.since (hu8.kp [D] (.inl (by simp))) (by simp; omega)
    exact ⟨[.slice ad _ cap], ⟨⟨_, rfl⟩, trivial⟩, ad, cap, rfl, ho5.upd hu8 (fun hm => by have := hn5' _ hm; omega), kw8, fun b hb => by have := hn5' b hb; omega⟩
  · rintro D c pre post W hD hc hx' hf hsh
    exact hf.elim
/-- what gone keeps -/
def gonP (m : Int) (l : List P3) : List P3 := if 0 ≤ m then l.take m.toNat else l
/-! ### Pair -/
noncomputable def pairV (E : List Ev) (R : List Int) (v : Int) : Option P3 := bestGo (fun x => decide (x.1 = v)) none (racesN E R E.length)
end
end Go.Vc
