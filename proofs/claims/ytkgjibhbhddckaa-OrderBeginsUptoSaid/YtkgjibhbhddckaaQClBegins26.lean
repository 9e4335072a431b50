/- order: an order that is not there; orders there or not, in one form. -/
import Derived.Test.YtkgjibhbhddckaaQClBegins25
import Derived.Test.YtkgjibhbhddckaaQClBegins6
import Derived.Test.YtkgjibhbhddckaaQClBegins11
namespace Go.Vc
open Go Go.Proofs
set_option maxRecDepth 10000
variable {w : World}
/-- no order, or one of nothing -/
def AbsO (w : World) (p : Option Addr) : Prop := p = none ∨ ∃ b, p = some ⟨b, 0, none⟩ ∧ Blk w b [.slice none 0 0, .slice none 0 0, .pointer none] 84
theorem AbsO.kp0 {w' : World} {p : Option Addr} (h : AbsO w p) (hk : Kp [] w w') : AbsO w' p := by
  rcases h with h | ⟨b, h1, h2⟩
  · exact .inl h
  · exact .inr ⟨b, h1, hk.blk (by simp) h2⟩
theorem AbsO.heap {W : World} {p : Option Addr} (h : AbsO w p) (hp : ∀ b, b ∈ blkOf p → W.heap[b]? = w.heap[b]?) : AbsO W p := by
  rcases h with h | ⟨b, h1, h2⟩
  · exact .inl h
  · exact .inr ⟨b, h1, by unfold Blk; rw [hp b (by rw [h1]; simp [blkOf])]; exact h2⟩
theorem befI_nil (i j : Int) : befI [] [] i j = false := by
  rw [Bool.eq_false_iff]
  intro h
  have := befI_lt h
  simp at this; omega
section
variable {p : Option Addr}
theorem aLen_ret (h : AbsO w p) : Ret Try.prog 18 [.pointer p] w (fun v w' => v = I 0 ∧ w' = w) := by
  rcases h with rfl | ⟨b, rfl, hB⟩
  · exact oLen_nil
  refine enter Try.call18 Try.func18 rfl rfl rfl rfl ?_
  (repeat first|refine zA ?_|refine zB ?_|refine zg ?_|refine zo rfl rfl trivial ?_|refine zn ?_|refine zk ?_|refine zf rfl ?_)
  refine o_load (v := .slice none 0 0) rfl hB rfl rfl rfl rfl rfl ?_
  (repeat first|refine zo rfl rfl trivial ?_|refine zn ?_|refine zr ?_)
  exact ⟨_, rfl, rfl, rfl⟩
theorem aEvent_ret (h : AbsO w p) (i : Int) : Ret Try.prog 35 [.pointer p, I i] w (fun v w' => v = .tuple #[.agg ⟨evC ⟨0, 0, 0⟩⟩, .bool false] ∧ Kp [] w w') := by
  refine enterC Try.call35 Try.func35 rfl rfl rfl rfl ?_
  (repeat first|refine zA ?_|refine zg ?_)
  refine o_alloc rfl rfl rfl rfl ?_
  intro bs w1 hbs hu1
  have k1 : Kp [] w w1 := hu1.kp [] (.inr (by omega))
  have h1 := h.kp0 k1
  have fin : ∀ w4, Upd w1 bs (.cells ⟨evC ⟨0, 0, 0⟩⟩ 59 (0, 0)) w4 → Kp [] w w4 := fun w4 hu4 => k1.since (hu4.kp [bs] (.inl (by simp))) (by simp; omega)
  (repeat first|refine zA ?_|refine zB ?_|refine zg ?_|refine zo rfl rfl trivial ?_|refine zn ?_)
  by_cases h0 : i < 0
  · refine o_is true 2 false rfl rfl rfl (by simp; omega) ?_
    (repeat first|refine zA ?_|refine zg ?_|refine zo rfl rfl trivial ?_|refine zn ?_|refine zt rfl ?_)
    refine o_build [I 0, I 0, I 0] rfl rfl rfl rfl rfl rfl rfl ?_
    refine o_storeA (cs := [I 0, I 0, I 0]) rfl hu1.blk (Nat.le_refl _) rfl (by simp [Value.oneCell']) rfl rfl rfl rfl ?_
    intro w4 hu4
    have hB4 : Blk w4 bs (evC ⟨0, 0, 0⟩) 59 := hu4.blk
    (repeat first|refine zo rfl rfl trivial ?_|refine zn ?_|refine zr ?_)
    exact ⟨[.agg ⟨evC ⟨0, 0, 0⟩⟩, _], ⟨⟨_, rfl, run_loadB hB4 rfl rfl rfl rfl⟩, ⟨_, rfl⟩, trivial⟩, rfl, fin w4 hu4⟩
  · refine o_is false 2 false rfl rfl rfl (by simp; omega) ?_
    (repeat refine zo rfl rfl trivial ?_)
    refine o_call (aLen_ret h1) rfl rfl rfl ?_
    rintro v wx ⟨rfl, rfl⟩
    (repeat first|refine zo rfl rfl trivial ?_|refine zn ?_)
    refine r_yes rfl (by simp; omega) ?_
    (repeat first|refine zA ?_|refine zg ?_)
    refine o_build [I 0, I 0, I 0] rfl rfl rfl rfl rfl rfl rfl ?_
    refine o_storeA (cs := [I 0, I 0, I 0]) rfl hu1.blk (Nat.le_refl _) rfl (by simp [Value.oneCell']) rfl rfl rfl rfl ?_
    intro w4 hu4
    have hB4 : Blk w4 bs (evC ⟨0, 0, 0⟩) 59 := hu4.blk
    (repeat first|refine zo rfl rfl trivial ?_|refine zn ?_|refine zr ?_)
    exact ⟨[.agg ⟨evC ⟨0, 0, 0⟩⟩, _], ⟨⟨_, rfl, run_loadB hB4 rfl rfl rfl rfl⟩, ⟨_, rfl⟩, trivial⟩, rfl, fin w4 hu4⟩
theorem aWhy_ret (h : AbsO w p) (i j : Int) : Ret Try.prog 21 [.pointer p, I i, I j] w (fun v w' => v = I 0 ∧ Kp [] w w') := by
  refine enter Try.call21 Try.func21 rfl rfl rfl rfl ?_
  (repeat first|refine zA ?_|refine zg ?_|refine zo rfl rfl trivial ?_|refine zn ?_)
  refine o_call (aEvent_ret h i) rfl rfl rfl ?_
  rintro v w1 ⟨rfl, k1⟩
  have h1 := h.kp0 k1
  (repeat refine zo rfl rfl trivial ?_)
  refine o_alloc rfl rfl rfl rfl ?_
  intro ba w2 hba hu2
  refine o_storeA (cs := evC ⟨0, 0, 0⟩) rfl hu2.blk (Nat.le_refl _) rfl (by simp [Value.oneCell']) rfl rfl rfl rfl ?_
  intro w3 hu3
  have k3 : Kp [] w1 w3 := (hu2.kp [] (.inr (by omega))).since (hu3.kp [ba] (.inl (by simp))) (by simp; omega)
  have h3 := h1.kp0 k3
  (repeat first|refine zA ?_|refine zg ?_|refine zo rfl rfl trivial ?_|refine zn ?_)
  refine o_call (aEvent_ret h3 j) rfl rfl rfl ?_
  rintro v w4 ⟨rfl, k4⟩
  (repeat refine zo rfl rfl trivial ?_)
  refine o_alloc rfl rfl rfl rfl ?_
  intro bb w5 hbb hu5
  refine o_storeA (cs := evC ⟨0, 0, 0⟩) rfl hu5.blk (Nat.le_refl _) rfl (by simp [Value.oneCell']) rfl rfl rfl rfl ?_
  intro w6 hu6
  have k6 : Kp [] w4 w6 := (hu5.kp [] (.inr (by omega))).since (hu6.kp [bb] (.inl (by simp))) (by simp; omega)
  have kk : Kp [] w w6 := ((k1.trans k3).trans k4).trans k6
  (repeat first|refine zA ?_|refine zB ?_|refine zg ?_|refine zo rfl rfl trivial ?_|refine zn ?_|refine zr ?_|refine zT rfl rfl rfl ?_|refine zt rfl ?_)
  exact ⟨_, rfl, rfl, kk⟩
theorem aBefore_ret (h : AbsO w p) (i j : Int) : Ret Try.prog 22 [.pointer p, I i, I j] w (fun v w' => v = .bool false ∧ w' = w) := by
  refine enter Try.call22 Try.func22 rfl rfl rfl rfl ?_
  (repeat first|refine zA ?_|refine zg ?_|refine zo rfl rfl trivial ?_|refine zn ?_)
  refine o_call (aLen_ret h) rfl rfl rfl ?_
  rintro v w1 ⟨rfl, rfl⟩
  (repeat first|refine zo rfl rfl trivial ?_|refine zn ?_|refine zr ?_|refine zU rfl rfl rfl ?_)
  exact ⟨_, rfl, rfl, rfl⟩
theorem AbsO.lt (h : AbsO w p) : ∀ b, b ∈ blkOf p → b < w.heap.size := fun b hb => by
  rcases h with rfl | ⟨b', rfl, hB⟩
  · simp [blkOf] at hb
  · simp [blkOf] at hb; subst hb; exact hB.lt
theorem aall_iter (h : AbsO w p) {bx : Nat} (hbx : Blk w bx [.pointer p] 26) : Iter Try.prog 70 [ptr bx] (bx :: blkOf p) pairE [] w := by
  refine ⟨?_, ?_⟩
  · intro b hb
    rcases List.mem_cons.1 hb with rfl | hb
    · exact hbx.lt
    · exact h.lt b hb
  intro l w1 J Jx hsz hpriv hstab hJ0 hY hstabx
  have hp := hpriv _ _ hJ0
  have h1 : AbsO w1 p := h.heap (fun b hb => hp b (by simp [hb]))
  have hb1 : Blk w1 bx [.pointer p] 26 := by unfold Blk; rw [hp bx (by simp)]; exact hbx
  refine enter Try.call70 Try.func70 rfl rfl rfl rfl ?_
  refine r_scope ?_
  refine r_seq (r_label ?_)
  (repeat first|refine zA ?_|refine zg ?_)
  refine o_load rfl hb1 rfl rfl rfl rfl rfl ?_
  refine o_call (aLen_ret h1) rfl rfl rfl ?_
  rintro v w2 ⟨rfl, rfl⟩
  (repeat first|refine zo rfl rfl trivial ?_|refine zn ?_|refine zb ?_)
  refine r_loop (α := Unit) [0, 1, 6, 7] (fun _ => [yv l, ptr bx, I 0, I 0]) (fun _ W => J [] W) (fun _ => 0) () rfl hJ0 ?_
  rintro _ e W hJ
  (repeat first|refine zA ?_|refine zD ?_|refine zg ?_|refine zo rfl rfl trivial ?_|refine zn ?_|refine ze rfl ?_|refine zf rfl ?_)
  exact ⟨_, rfl, .inl hJ⟩
theorem aAll_ret (h : AbsO w p) : Ret Try.prog 24 [.pointer p] w (fun v w' => ∃ bx, Seq3 w' v (bx :: blkOf p) [] ∧ Kp [] w w' ∧ w.heap.size ≤ bx) := by
  refine enter Try.call24 Try.func24 rfl rfl rfl rfl ?_
  (repeat first|refine zA ?_|refine zg ?_)
  refine o_box rfl rfl rfl ?_
  intro bx w1 hbx hu1
  have hB1 : Blk w1 bx [.pointer p] 26 := hu1.blk
  have k1 : Kp [] w w1 := hu1.kp [] (.inr (by omega))
  (repeat first|refine zA ?_|refine zg ?_|refine zo rfl rfl trivial ?_|refine zn ?_|refine zr ?_)
  exact ⟨_, rfl, bx, ⟨_, _, rfl, aall_iter (h.kp0 k1) hB1⟩, k1, by omega⟩
end
/-- an order, there (F its blocks) or not -/
def OX (w : World) (p : Option Addr) (F : List Nat) (E : List Ev) (R : List Int) : Prop := (AbsO w p ∧ F = blkOf p ∧ E = [] ∧ R = []) ∨ ∃ g, p = some ⟨g.p, 0, none⟩ ∧ F = g.F ∧ OrAt w g E R
section
variable {p : Option Addr} {F : List Nat} {E : List Ev} {R : List Int}
theorem OX.kp0 {w' : World} (h : OX w p F E R) (hk : Kp [] w w') : OX w' p F E R := by
  rcases h with ⟨h1, h2⟩ | ⟨g, h1, h2, h3⟩
  · exact .inl ⟨h1.kp0 hk, h2⟩
  · exact .inr ⟨g, h1, h2, h3.kp0 hk⟩
theorem OX.lt (h : OX w p F E R) : ∀ b, b ∈ F → b < w.heap.size := by
  rcases h with ⟨h1, rfl, _⟩ | ⟨g, h1, rfl, h3⟩
  · exact h1.lt
  · exact h3.fl
theorem OX.small (h : OX w p F E R) : E.length ≤ 2048 := by
  rcases h with ⟨_, _, rfl, _⟩ | ⟨g, _, _, h3⟩
  · simp
  · exact h3.small
theorem xLen_ret (h : OX w p F E R) : Ret Try.prog 18 [.pointer p] w (fun v w' => v = I E.length ∧ w' = w) := by
  rcases h with ⟨h1, _, rfl, _⟩ | ⟨g, rfl, _, h3⟩
  · exact aLen_ret h1
  · exact oLen_ret h3.toOrB
theorem whyI_nil (R : List Int) (i j : Int) : whyI [] R i j = 0 := by unfold whyI; rw [if_neg (by simp only [List.length_nil]; omega)]
theorem xWhy_ret (h : OX w p F E R) (i j : Int) : Ret Try.prog 21 [.pointer p, I i, I j] w (fun v w' => v = I (whyI E R i j) ∧ Kp [] w w') := by
  rcases h with ⟨h1, _, rfl, _⟩ | ⟨g, rfl, _, h3⟩
  · rw [whyI_nil]; exact aWhy_ret h1 i j
  · exact oWhy_ret h3.toOrB i j
theorem xBefore_ret (h : OX w p F E R) (i j : Int) : Ret Try.prog 22 [.pointer p, I i, I j] w (fun v w' => v = .bool (befI E R i j) ∧ w' = w) := by
  rcases h with ⟨h1, _, rfl, rfl⟩ | ⟨g, rfl, _, h3⟩
  · rw [befI_nil]; exact aBefore_ret h1 i j
  · exact oBefore_ret h3 i j
theorem xAll_ret (h : OX w p F E R) : Ret Try.prog 24 [.pointer p] w (fun v w' => ∃ bx, Seq3 w' v (bx :: F) (racesN E R E.length) ∧ Kp [] w w' ∧ w.heap.size ≤ bx) := by
  rcases h with ⟨h1, rfl, rfl, rfl⟩ | ⟨g, rfl, rfl, h3⟩
  · exact aAll_ret h1
  · exact oAll_ret h3 h3.fl
end
end Go.Vc
/- Outermost loops over functions in a function whose results lie in memory. -/
namespace Go.Vc
open Go
variable {P : Program} {n : Nat} {w : World}
theorem leaves_of_shutC {fn : Func} {tmps : Array Value} {Q : World → Prop} {RE : Ending → World → Prop} (hv : ∀ w, Q w → ∃ v, (results fn tmps).run P w = .ok v w ∧ RE (.returned v) w) :
    ∀ (ds : List Nat) (w : World), Shut Q ds w → LeavesInM (FW none) 0 P fn tmps RE (ds.map markOf) .returning w
  | [], w, h => by
    obtain ⟨v, h1, h2⟩ := hv w h
    exact ⟨v, h1, h2⟩
  | D :: ds, w, h => by
    refine ⟨by simp, .inl ⟨D, w.putObj D (.deferred none), rfl, run_takeDeferred h.1, ?_⟩⟩
    exact leaves_of_shutC hv ds _ (h.2 _ (upd_putObj (Array.getElem?_eq_some_iff.1 h.1).1))
theorem enterMC {f : FuncId} {fn : Func} {c : Code} {vs : List Value} {R : Value → World → Prop} (hE : Enters P f) (hf : P.funcs[f]? = some fn) (hb : fn.body = some c) (hn : fn.ntmps = n) {rs : List ResultVar} (hr : fn.results = ⟨rs⟩)
    (hl : Nat.ble vs.length n = true) (h : WpM P n c (fun ds e w => Shut (fun w => ∃ us, resC P e w rs us ∧ R (tupV us) w) ds w) [] (fun ds e w => Shut (fun w => ∃ us, resC P e w rs us ∧ R (tupV us) w) ds w) [] (nth vs) w) : Ret P f vs w R := by
  refine ⟨hE, callsFW' (callsIn_of_wp_marks (n := 0) hf hb trivial ?_)⟩
  rw [hn]
  refine wpIn_mono (h _ (fit_enter vs n (Nat.le_of_ble_eq_true hl))) ?_
  intro x a w hq
  have fin : (∃ ds e, Fit n (ds.map markOf) a e ∧ Shut (fun w => ∃ us, resC P e w rs us ∧ R (tupV us) w) ds w) → LeavesInM (FW none) 0 P fn a.tmps (fun x w' => ∃ v, x = .returned v ∧ R v w') a.defers .returning w := by
    rintro ⟨ds, e, hfit, hS⟩
    rw [hfit.defers]
    exact leaves_of_shutC (fun w hq => by obtain ⟨us, h1, h2⟩ := hq; exact ⟨tupV us, results_resC hr hfit h1, _, rfl, h2⟩) ds w hS
  cases x with
  | normal => exact fin hq
  | ret => exact fin hq
  | exit id => obtain ⟨J, ds, e, hJ, _⟩ := hq; cases hJ
  | goto l => exact hq.elim
  | panic c => exact hq.elim
  | outgrown => exact hq.elim
section
variable {e : Env} {KM : MPost} {XM : List (Nat × MPost)} {RM : MPost} {ds : List Nat}
theorem m_range2 {g : Operand} {ps : List Nat} {assign body : Code} {f : FuncId} {lb : List Value} {Fp : List Nat} {α : Type} {enc : α → List Value} {xs : List α} (hI : Iter P f lb Fp enc xs w) (ids : List Nat) (I : List α → World → Prop) (Ix : Code → List α → World → Prop)
    (hg : ev e g = .func (.func f) #[] ⟨lb⟩) (hps : ps.all (fun p => Nat.blt p n) = true) (henc : ∀ x, (enc x).length = ps.length)
    (hI' : ∀ pre w1 w2, I pre w1 → Nc w.heap.size w1 w2 → I pre w2) (hIx' : ∀ c pre w1 w2, Ix c pre w1 → Nc w.heap.size w1 w2 → Ix c pre w2) (h0 : I [] w)
    (round : ∀ D l r pre x post W, xs = pre ++ x :: post → D = w.heap.size → l = w.heap.size + 1 → I pre W → Wp (some l) P n assign (fun e1 W1 => Kp [] W W1 ∧ ∀ W2, Nc w.heap.size W1 W2 → Keeps D l r Fp w W2 →
      Wp (some l) P n body (fun _ W3 => I (pre ++ [x]) W3 ∧ Keeps D l r Fp w W3) (exitsI D l r Fp w Ix (pre ++ [x]) ids) (fun _ W3 => Ix .ret (pre ++ [x]) W3 ∧ Keeps D l r Fp w W3) e1 W2) [] (fun _ _ => False) (over e ps.reverse (enc x).reverse) W)
    (done : ∀ D W, D = w.heap.size → I xs W → W.heap[D]? = some (.deferred (some [])) → KM (D :: ds) e W)
    (stop : ∀ D c pre post W, D = w.heap.size → (c = .ret ∨ ∃ i, i ∈ ids ∧ c = .exit i) → xs = pre ++ post → Ix c pre W → W.heap[D]? = some (.deferred (some [])) → WpM P n c KM XM RM (D :: ds) e W) :
    WpM P n (.rangeFunc g ⟨ps⟩ assign body) KM XM RM ds e w := by
  intro a ha
  refine wpIn_rangeFunc fun fn _ => ?_
  let D := w.heap.size
  let l := w.heap.size + 1
  let r0 : Loop := { state := .ready, pending := none, fn, tmps := a.tmps, params := ⟨ps⟩, assign, body, defers := w.heap.size }
  let w1 := (w.alloc (.deferred (some []))).alloc (.loop r0)
  have u1 : Upd w D (.deferred (some [])) (w.alloc (.deferred (some []))) := upd_alloc w _
  have u2 : Upd (w.alloc (.deferred (some []))) l (.loop r0) w1 := by
    have := upd_alloc (w.alloc (.deferred (some []))) (.loop r0)
    rwa [World.size_alloc] at this
  have n1 : Nc w.heap.size w w1 := (u1.nc (Nat.le_refl _) (fun x hx => by have := (Array.getElem?_eq_some_iff.1 hx).1; omega)).trans (u2.nc (by show _ ≤ w.heap.size + 1; omega) (fun x hx => by have := (Array.getElem?_eq_some_iff.1 hx).1; rw [World.size_alloc] at this; omega))
  have hl1 : w1.heap[l]? = some (.loop r0) := u2.at_
  have hD1 : w1.heap[D]? = some (.deferred (some [])) := u2.keep (by show w.heap.size ≠ w.heap.size + 1; omega) u1.at_
  have hret := hI.2 l w1 (fun pre W => I pre W ∧ W.heap[l]? = some (.loop r0) ∧ W.heap[D]? = some (.deferred (some [])) ∧ ∀ b, b ∈ Fp → W.heap[b]? = w.heap[b]?)
    (fun pre W => ∃ c, Ix c pre W ∧ (c = .ret ∨ ∃ i, i ∈ ids ∧ c = .exit i) ∧ (∃ r', W.heap[l]? = some (.loop r') ∧ r'.state = .done ∧ r'.pending = some c) ∧ W.heap[D]? = some (.deferred (some [])))
    n1.size (fun pre W h => h.2.2.2) (fun pre W W' ⟨h1, h2, h3, h4⟩ hk => ⟨hI' _ _ _ h1 (hk.nc _), (hk.at_ l (Array.getElem?_eq_some_iff.1 h2).1 (by simp)).trans h2, (hk.at_ D (Array.getElem?_eq_some_iff.1 h3).1 (by simp)).trans h3,
      fun b hb => (hk.at_ b (by have := hI.1 b hb; have := (Array.getElem?_eq_some_iff.1 h3).1; show b < W.heap.size; have : w.heap.size < W.heap.size := (Array.getElem?_eq_some_iff.1 h3).1; omega) (by simp)).trans (h4 b hb)⟩)
    ⟨hI' _ _ _ h0 n1, hl1, hD1, fun b hb => n1.at_lt (hI.1 b hb) (hI.1 b hb)⟩
    (fun pre x post W hx ⟨h1, h2, h3, h4⟩ => by
      refine y_round (n := n) (e := e) (ps := ps) ids h2 rfl ha.size ha.get rfl (fun p hp => by have := List.all_eq_true.1 hps p hp; simpa [Nat.blt_eq] using this) (henc x) ?_
      refine (round D l { r0 with state := .busy } pre x post W hx rfl rfl h1).monoK ?_
      rintro e1 W1 ⟨hk1, hb⟩
      have h2' : W1.heap[l]? = _ := (hk1.at_ l (Array.getElem?_eq_some_iff.1 h2).1 (by simp)).trans h2
      have h3' : W1.heap[D]? = _ := (hk1.at_ D (Array.getElem?_eq_some_iff.1 h3).1 (by simp)).trans h3
      have h4' : ∀ b, b ∈ Fp → W1.heap[b]? = w.heap[b]? := fun b hb => (hk1.at_ b (by have q1 := hI.1 b hb; have q2 := (Array.getElem?_eq_some_iff.1 h3).1; have q3 : w.heap.size < W.heap.size := q2; omega) (by simp)).trans (h4 b hb)
      refine ⟨h2', fun W2 hu => ?_⟩
      have n2 : Nc w.heap.size W1 W2 := hu.nc (by show _ ≤ w.heap.size + 1; omega) (fun x hx => by rw [h2'] at hx; cases hx; rfl)
      have hne : D ≠ l := by show w.heap.size ≠ w.heap.size + 1; omega
      refine (hb W2 n2 ⟨hu.at_, (hu.other D hne).trans h3', fun b hb => (hu.other b (by have := hI.1 b hb; show b ≠ w.heap.size + 1; omega)).trans (h4' b hb)⟩).mono ?_ ?_ ?_
      · rintro e3 W3 ⟨hi, hk⟩
        refine ⟨_, hk.loop, fun W4 hu4 => .inl ⟨rfl, hI' _ _ _ hi (hu4.nc (by show _ ≤ w.heap.size + 1; omega) (fun x hx => by rw [hk.loop] at hx; cases hx; rfl)), hu4.at_, (hu4.other D hne).trans hk.shut, fun b hb => (hu4.other b (by have := hI.1 b hb; show b ≠ w.heap.size + 1; omega)).trans (hk.priv b hb)⟩⟩
      · intro i J hJ
        obtain ⟨him, rfl⟩ := look_exitsI hJ
        refine ⟨_, exits_mem him, ?_⟩
        rintro e3 W3 ⟨hi, hk⟩
        exact ⟨_, hk.loop, fun W4 hu4 => .inr ⟨rfl, .exit i, hIx' _ _ _ _ hi (hu4.nc (by show _ ≤ w.heap.size + 1; omega) (fun x hx => by rw [hk.loop] at hx; cases hx; rfl)), .inr ⟨i, him, rfl⟩, ⟨_, hu4.at_, rfl, rfl⟩, (hu4.other D hne).trans hk.shut⟩⟩
      · rintro e3 W3 ⟨hi, hk⟩
        exact ⟨_, hk.loop, fun W4 hu4 => .inr ⟨rfl, .ret, hIx' _ _ _ _ hi (hu4.nc (by show _ ≤ w.heap.size + 1; omega) (fun x hx => by rw [hk.loop] at hx; cases hx; rfl)), .inl rfl, ⟨_, hu4.at_, rfl, rfl⟩, (hu4.other D hne).trans hk.shut⟩⟩)
    (fun pre W W' ⟨c, h1, h2, ⟨r', h3, h4, h5⟩, h6⟩ hk => ⟨c, hIx' _ _ _ _ h1 (hk.nc _), h2, ⟨r', (hk.at_ l (Array.getElem?_eq_some_iff.1 h3).1 (by simp)).trans h3, h4, h5⟩, (hk.at_ D (Array.getElem?_eq_some_iff.1 h6).1 (by simp)).trans h6⟩)
  refine ⟨l, [markOf D], w1, { target := .fn (.func f) ⟨lb⟩, args := #[yv l] }, w1, f, ⟨yv l :: lb⟩, w1, run_enterLoop_outer fn a.tmps ⟨ps⟩ assign body, ?_, fun _ _ => trivial, ?_, (fun h => by cases h), callsFW (hret.2.mono ?_)⟩
  · show (resolve a.eval (rangeCall g l) 0).run P w1 = .ok { target := .fn (.func f) ⟨lb⟩, args := #[yv l] } w1
    simp only [resolve, rangeCall, ha.eval, hg, Deferred.ofValue, Sem.run_pure]
    simp [ev]
  · have := hret.1 ⟨yv l :: lb⟩ w1
    simp only [invoke]
    have e1 : #[yv l] ++ (⟨lb⟩ : Array Value) = ⟨yv l :: lb⟩ := by apply Array.ext'; simp
    rw [e1]
    exact this
  · rintro x W ⟨v, rfl, hq⟩
    have ha' : Fit n ((D :: ds).map markOf) { a with defers := [markOf D] ++ a.defers } e := ⟨ha.size, ha.get, by show markOf D :: a.defers = _; rw [ha.defers]; rfl⟩
    have hne : D ≠ l := by show w.heap.size ≠ w.heap.size + 1; omega
    rcases hq with ⟨h1, h2, h3, h4⟩ | ⟨pre, post, hx, c, h1, h2, ⟨r', h3, h4, h5⟩, h6⟩
    · refine ⟨_, _, run_endLoop h2 (by intro h; cases h), ?_⟩
      have hu := upd_putObj (o := .loop { r0 with state := .exhausted }) (Array.getElem?_eq_some_iff.1 h2).1
      exact ⟨D :: ds, e, ha', done D _ rfl (hI' _ _ _ h1 (hu.nc (by show _ ≤ w.heap.size + 1; omega) (fun x hx => by rw [h2] at hx; cases hx; rfl))) ((hu.other D hne).trans h3)⟩
    · refine ⟨some c, W.putObj l (.loop { r' with state := .exhausted }), (by rw [← h5]; exact run_endLoop h3 (by rw [h4]; intro h; cases h)), ?_⟩
      have hu := upd_putObj (o := .loop { r' with state := .exhausted }) (Array.getElem?_eq_some_iff.1 h3).1
      exact stop D c pre post _ rfl h2 hx (hIx' _ _ _ _ h1 (hu.nc (by show _ ≤ w.heap.size + 1; omega) (fun x hx => by rw [h3] at hx; cases hx; rfl))) ((hu.other D hne).trans h6) _ ha'
end
end Go.Vc
