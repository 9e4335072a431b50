/- Parts of a proof. -/
import Derived.Test.YtkgngbpkiklckaaGreatDoorQClQExact27
set_option maxHeartbeats 12800000
namespace Go.Vc
open Go Go.Proofs
set_option maxRecDepth 20000
section
abbrev tiredV : Value := .iface 199 (.agg ⟨[]⟩)
def sg (f : List UInt8 → Option Int) : List UInt8 → Int := fun k => (f k).getD 0
def AskR (g : MG) (a : Int × Nat) (W : World) (f : List UInt8 → Option Int) (s : Nat) (v : Value) (W' : World) : Prop := v = I a.1 ∧ s + a.2 ≤ g.fuel ∧ MAt W' g f (s + a.2) ∧ Kp g.F W W'
def AskE (g : MG) (a : Int × Nat) (W : World) (s : Nat) (v : Value) (W' : World) : Prop := g.fuel < s + a.2 ∧ v = tiredV ∧ Kp g.F W W' ∧ ∃ f' s', MAt W' g f' s'
def AsksC (g : MG) (ans : (List UInt8 → Int) → Int × Nat) (w0 : World) (v : Value) : Prop :=
 ∃ fn first caps, v = .func (.func fn) first caps ∧ ∀ W f s, Kp g.F w0 W → MAt W g f s → s ≤ g.fuel → RetP Tryz.prog fn (first.toList ++ caps.toList) W (AskR g (ans (sg f)) W f s) (AskE g (ans (sg f)) W s)
theorem AsksC.kp {g : MG} {ans : (List UInt8 → Int) → Int × Nat} {w0 w1 : World} {v : Value} (h : AsksC g ans w0 v) (hk : Kp g.F w0 w1) : AsksC g ans w1 v := by
 obtain ⟨fn, first, caps, hv, h⟩ := h
 exact ⟨fn, first, caps, hv, fun W f s hk2 => h W f s (hk.trans hk2)⟩
def evd (W : QW) : QT → (List UInt8 → Int) → Int × Nat
 | .n0 op num name, σ => (if op = 1 then num else if op = 2 then σ name else W.n, 0)
 | .n1 op _ name a, σ =>
  if 22 ≤ op then Je5 op (fun i => evq W a (setV σ name i)) (evs W op) 0
  else (oneV W op (evq W a σ).1, (evq W a σ).2)
 | .n2 op _ _ a b, σ =>
  if op = 18 then (if (evq W a σ).1 = 1 then (trI (decide ((evq W b σ).1 = 1)), (evq W a σ).2 + (evq W b σ).2) else (0, (evq W a σ).2))
  else if op = 19 then (if (evq W a σ).1 = 1 then (1, (evq W a σ).2) else (trI (decide ((evq W b σ).1 = 1)), (evq W a σ).2 + (evq W b σ).2))
  else (Qj5 W op (evq W a σ).1 (evq W b σ).1, (evq W a σ).2 + (evq W b σ).2)
theorem evq_evd (W : QW) (t : QT) (σ : List UInt8 → Int) : evq W t σ = ((evd W t σ).1, 1 + (evd W t σ).2) := by
 cases t with
 | n0 => rfl
 | n1 op num name a => by_cases h : 22 ≤ op <;> simp [evq, evd, h]
 | n2 op num name a b =>
  by_cases h1 : op = 18
  ·by_cases h2 : (evq W a σ).1 = 1 <;> simp [evq, evd, h1, h2, Nat.add_assoc]
  ·by_cases h3 : op = 19
   ·by_cases h2 : (evq W a σ).1 = 1 <;> simp [evq, evd, h3, h2, Nat.add_assoc]
   ·simp [evq, evd, h1, h3, Nat.add_assoc]
variable {g : MG} {W : World} {f : List UInt8 → Option Int} {s : Nat}
abbrev Ans := (List UInt8 → Int) → Int × Nat
structure KBox (g : MG) (w0 : World) (b5 : Nat) (cs : List Ans) : Prop where
 ex : ∃ kad kcap vs, Blk w0 b5 [.slice kad cs.length kcap] 246 ∧ Ja7 w0 kad vs ∧ (∀ b ∈ Ja1 kad, b ∉ g.F) ∧ vs.length = cs.length ∧ ∀ (i : Nat) v a, vs[i]? = some v → cs[i]? = some a → AsksC g a w0 v
 out : b5 ∉ g.F
theorem Jm1 {w0 : World} {b5 : Nat} {cs : List Ans} (h : KBox g w0 b5 cs) {i : Nat} {a : Ans} (hi : cs[i]? = some a) :
  ∃ b0 off kcap fn first caps, (∀ W, Kp g.F w0 W → Blk W b5 [.slice (some ⟨b0, off, none⟩) cs.length kcap] 246 ∧ W.cell? ⟨b0, off + i, none⟩ = some (.func (.func fn) first caps)) ∧ i < cs.length ∧
   ∀ W' f s, Kp g.F w0 W' → MAt W' g f s → s ≤ g.fuel → RetP Tryz.prog fn (first.toList ++ caps.toList) W' (AskR g (a (sg f)) W' f s) (AskE g (a (sg f)) W' s) := by
 obtain ⟨⟨kad, kcap, vs, h1, h2, h6, h3, h4⟩, h5⟩ := h
 have hil := (List.getElem?_eq_some_iff.1 hi).1
 obtain ⟨v, hv⟩ : ∃ v, vs[i]? = some v := ⟨_, List.getElem?_eq_getElem oM⟩
 obtain ⟨fn, first, caps, rfl, hA⟩ := h4 i v a hv hi
 obtain ⟨b0, off, rfl, _, _⟩ := h2.at_ oM
 refine ⟨b0, off, kcap, fn, first, caps, fun W hW => ⟨hW.blk h5 h1, ?_⟩, hil, hA⟩
 have hR := h2.kp hW h6
 have := hR i _ hv
 rwa [Jc1] at this
theorem Jo3 {a : Int × Nat} {W1 : World} {s1 : Nat} {v : Value} {W' : World} {c : Nat} {a' : Int × Nat} (k1 : Kp g.F W W1) (hE : AskE g a W1 s1 v W') (hs : s1 = s + c) (hc : c + a.2 ≤ a'.2) : AskE g a' W s v W' := by
 obtain ⟨h1, h2, h3, h4⟩ := hE
 exact ⟨oM, h2, k1.trans h3, h4⟩
theorem work1_ok (h : MAt W g f s) (hs : s ≤ g.fuel) {b4 q lo : Nat} {num op : Int} {name : List UInt8} (h4 : Blk W b4 [ptr q] 87) (hT : Jc3 shQ lo W (.n0 op num name) q) : RetP Tryz.prog 163 [ptr b4] W (AskR g (num, 0) W f s) (AskE g (num, 0) W s) := by
 obtain ⟨_, ad, cap, hB⟩ := hT
 refine Zp Tryz.call163 Tryz.func163 ?_
 refine zL h4 ?_
 refine Zl (v := I num) rfl hB ?_
 refine zS ?_
 exact ⟨_, rfl, rfl, hs, h, Kp.refl _ _⟩
theorem work2_ok (h : MAt W g f s) (hs : s ≤ g.fuel) {b3 b4 q lo : Nat} {num op : Int} {name : List UInt8} (h3 : Blk W b3 [ptr g.p] 111) (h4 : Blk W b4 [ptr q] 87) (hT : Jc3 shQ lo W (.n0 op num name) q) : RetP Tryz.prog 164 [ptr b3, ptr b4] W (AskR g (sg f name, 0) W f s) (AskE g (sg f name, 0) W s) := by
 obtain ⟨_, ad, cap, hB⟩ := hT
 have hH := h.hdr
 refine Zp Tryz.call164 Tryz.func164 ?_
 refine zS ?_
 refine Ja9 ?_
 refine Jd8 (α := Unit) [2] (fun _ => [I (sg f name)]) (fun _ W' => Kp [] W W') ?_ ?_
 ·refine Jc9 Ja0 kR ?_
  refine zN h3 ?_
  refine zN hH ?_
  refine zN h4 ?_
  refine Zq (v := S name) rfl (fun _ hs => (Kp.blk hs sI hB).cell rfl) ?_
  refine q_lookT (I (sg f name)) rfl rfl (fun w' hw => h.map.kp hw sI) (by unfold sg; cases f name <;> rfl) rfl rfl rfl rfl rfl rfl ?_
  refine zQ ?_
  intro w' hs
  exact ⟨(), rfl, hs⟩
 rintro _ e2 w2 k2
 refine zS ?_
 exact ⟨_, rfl, rfl, hs, h.kp0 k2, k2.mono sI⟩
theorem work3_ok {w0 : World} {b5 : Nat} {a0 : Ans} (hK : KBox g w0 b5 [a0]) (hW : Kp g.F w0 W) (h : MAt W g f s) (hs : s ≤ g.fuel) : RetP Tryz.prog 166 [ptr b5] W (AskR g (IntKind.i64.wrap (0 - (a0 (sg f)).1), (a0 (sg f)).2) W f s) (AskE g (IntKind.i64.wrap (0 - (a0 (sg f)).1), (a0 (sg f)).2) W s) := by
 obtain ⟨b0, off, kcap, fn, first, caps, hbc, _, hA⟩ := Jm1 hK (i := 0) rfl
 obtain ⟨hbx, hc0⟩ := hbc W hW
 refine Zp Tryz.call166 Tryz.func166 ?_
 refine zS ?_
 refine Zl rfl hbx ?_
 refine zo rfl rfl (by simp only [AllP, List.length_cons, List.length_nil]; omega) ?_
 refine Zo (v := .func (.func fn) first caps) rfl hc0 ?_
 refine Jh0 (first := first) (cap := caps) (hA W f s hW h hs) rfl sI rfl rfl (fun v w' hE => Jo3 (Kp.refl _ _) hE (c := 0) rfl sI) ?_
 rintro v w1 ⟨rfl, g1, g2, g3⟩
 refine o_negW rfl rfl rfl ?_
 refine zS ?_
 exact ⟨_, rfl, rfl, g1, g2, g3⟩
theorem work4_ok {w0 : World} {b5 : Nat} {a0 : Ans} (hK : KBox g w0 b5 [a0]) (hW : Kp g.F w0 W) (h : MAt W g f s) (hs : s ≤ g.fuel) : RetP Tryz.prog 167 [ptr b5] W (AskR g (IntKind.i64.wrap (1 - (a0 (sg f)).1), (a0 (sg f)).2) W f s) (AskE g (IntKind.i64.wrap (1 - (a0 (sg f)).1), (a0 (sg f)).2) W s) := by
 obtain ⟨b0, off, kcap, fn, first, caps, hbc, _, hA⟩ := Jm1 hK (i := 0) rfl
 obtain ⟨hbx, hc0⟩ := hbc W hW
 refine Zp Tryz.call167 Tryz.func167 ?_
 refine zS ?_
 refine Zl rfl hbx ?_
 refine zo rfl rfl (by simp only [AllP, List.length_cons, List.length_nil]; omega) ?_
 refine Zo (v := .func (.func fn) first caps) rfl hc0 ?_
 refine Jh0 (first := first) (cap := caps) (hA W f s hW h hs) rfl sI rfl rfl (fun v w' hE => Jo3 (Kp.refl _ _) hE (c := 0) rfl sI) ?_
 rintro v w1 ⟨rfl, g1, g2, g3⟩
 refine o_subW rfl rfl rfl rfl ?_
 refine zS ?_
 exact ⟨_, rfl, rfl, g1, g2, g3⟩
theorem work5_ok {w0 : World} {b5 : Nat} {a0 a1 : Ans} (hK : KBox g w0 b5 [a0, a1]) (hW : Kp g.F w0 W) (h : MAt W g f s) (hs : s ≤ g.fuel) : RetP Tryz.prog 168 [ptr b5] W (AskR g (if (a0 (sg f)).1 = 1 then (trI (decide ((a1 (sg f)).1 = 1)), (a0 (sg f)).2 + (a1 (sg f)).2) else (0, (a0 (sg f)).2)) W f s) (AskE g (if (a0 (sg f)).1 = 1 then (trI (decide ((a1 (sg f)).1 = 1)), (a0 (sg f)).2 + (a1 (sg f)).2) else (0, (a0 (sg f)).2)) W s) := by
 obtain ⟨b0, off, kcap, fn, first, caps, hbc, _, hA⟩ := Jm1 hK (i := 0) rfl
 obtain ⟨hbx, hc0⟩ := hbc W hW
 refine Zp Tryz.call168 Tryz.func168 ?_
 refine zS ?_
 refine Zl rfl hbx ?_
 refine zo rfl rfl (by simp only [AllP, List.length_cons, List.length_nil]; omega) ?_
 refine Zo (v := .func (.func fn) first caps) rfl hc0 ?_
 refine Jh0 (first := first) (cap := caps) (hA W f s hW h hs) rfl sI rfl rfl (fun v w' hE => Jo3 (Kp.refl _ _) hE (c := 0) rfl (by split <;> simp)) ?_
 rintro v w1 ⟨rfl, g1, g2, g3⟩
 refine zS ?_
 refine Ja5 _ _ rfl rfl rfl (fun hx => ?_) (fun hx => ?_)
 ·have hx : (a0 (sg f)).1 = 1 := of_decide_eq_true hx
  obtain ⟨b0', off', kcap', fn', first', caps', hbc', _, hA'⟩ := Jm1 hK (i := 1) rfl
  obtain ⟨hbx', hc0'⟩ := hbc' _ (hW.trans g3)
  refine zS ?_
  refine Zl rfl hbx' ?_
  refine zo rfl rfl (by simp only [AllP, List.length_cons, List.length_nil]; omega) ?_
  refine Zo (v := .func (.func fn') first' caps') rfl hc0' ?_
  refine Jh0 (first := first') (cap := caps') (hA' w1 f (s + (a0 (sg f)).2) (hW.trans g3) g2 g1) rfl sI rfl rfl (fun v w' hE => Jo3 g3 hE (c := (a0 (sg f)).2) rfl (by simp [hx])) ?_
  rintro v w2 ⟨rfl, j1, j2, j3⟩
  refine zS ?_
  refine Zc (Jg3 _) ?_
  rintro v w3 ⟨rfl, rfl⟩
  refine zS ?_
  refine ⟨_, rfl, ?_⟩
  simp only [hx, if_true, if_false]
  exact ⟨rfl, by dsimp only; omega, by dsimp only; rw [← Nat.add_assoc]; exact j2, g3.trans j3⟩
 ·have hx : ¬ (a0 (sg f)).1 = 1 := of_decide_eq_false hx
  refine zS ?_
  refine Zc (Jg3 _) ?_
  rintro v w3 ⟨rfl, rfl⟩
  refine zS ?_
  refine ⟨_, rfl, ?_⟩
  simp only [hx, if_true, if_false]
  exact ⟨rfl, g1, g2, g3⟩
theorem work6_ok {w0 : World} {b5 : Nat} {a0 a1 : Ans} (hK : KBox g w0 b5 [a0, a1]) (hW : Kp g.F w0 W) (h : MAt W g f s) (hs : s ≤ g.fuel) : RetP Tryz.prog 170 [ptr b5] W (AskR g (if (a0 (sg f)).1 = 1 then (1, (a0 (sg f)).2) else (trI (decide ((a1 (sg f)).1 = 1)), (a0 (sg f)).2 + (a1 (sg f)).2)) W f s) (AskE g (if (a0 (sg f)).1 = 1 then (1, (a0 (sg f)).2) else (trI (decide ((a1 (sg f)).1 = 1)), (a0 (sg f)).2 + (a1 (sg f)).2)) W s) := by
 obtain ⟨b0, off, kcap, fn, first, caps, hbc, _, hA⟩ := Jm1 hK (i := 0) rfl
 obtain ⟨hbx, hc0⟩ := hbc W hW
 refine Zp Tryz.call170 Tryz.func170 ?_
 refine zS ?_
 refine Zl rfl hbx ?_
 refine zo rfl rfl (by simp only [AllP, List.length_cons, List.length_nil]; omega) ?_
 refine Zo (v := .func (.func fn) first caps) rfl hc0 ?_
 refine Jh0 (first := first) (cap := caps) (hA W f s hW h hs) rfl sI rfl rfl (fun v w' hE => Jo3 (Kp.refl _ _) hE (c := 0) rfl (by split <;> simp)) ?_
 rintro v w1 ⟨rfl, g1, g2, g3⟩
 refine zS ?_
 refine Ja5 _ _ rfl rfl rfl (fun hx => ?_) (fun hx => ?_)
 ·have hx : (a0 (sg f)).1 = 1 := of_decide_eq_true hx
  refine zS ?_
  refine Zc (Jg3 _) ?_
  rintro v w3 ⟨rfl, rfl⟩
  refine zS ?_
  refine ⟨_, rfl, ?_⟩
  simp only [hx, if_true, if_false]
  exact ⟨rfl, g1, g2, g3⟩
 ·have hx : ¬ (a0 (sg f)).1 = 1 := of_decide_eq_false hx
  obtain ⟨b0', off', kcap', fn', first', caps', hbc', _, hA'⟩ := Jm1 hK (i := 1) rfl
  obtain ⟨hbx', hc0'⟩ := hbc' _ (hW.trans g3)
  refine zS ?_
  refine Zl rfl hbx' ?_
  refine zo rfl rfl (by simp only [AllP, List.length_cons, List.length_nil]; omega) ?_
  refine Zo (v := .func (.func fn') first' caps') rfl hc0' ?_
  refine Jh0 (first := first') (cap := caps') (hA' w1 f (s + (a0 (sg f)).2) (hW.trans g3) g2 g1) rfl sI rfl rfl (fun v w' hE => Jo3 g3 hE (c := (a0 (sg f)).2) rfl (by simp [hx])) ?_
  rintro v w2 ⟨rfl, j1, j2, j3⟩
  refine zS ?_
  refine Zc (Jg3 _) ?_
  rintro v w3 ⟨rfl, rfl⟩
  refine zS ?_
  refine ⟨_, rfl, ?_⟩
  simp only [hx, if_true, if_false]
  exact ⟨rfl, by dsimp only; omega, by dsimp only; rw [← Nat.add_assoc]; exact j2, g3.trans j3⟩
theorem work8_ok {w0 : World} {b5 b3 b7 : Nat} {op : Int} {a0 a1 : Ans} (hK : KBox g w0 b5 [a0, a1]) (hW : Kp g.F w0 W) (h : MAt W g f s) (hs : s ≤ g.fuel) (h3 : Blk w0 b3 [ptr g.p] 111) (h3o : b3 ∉ g.F) (h7 : Blk w0 b7 [I op] 51) (h7o : b7 ∉ g.F) :
  RetP Tryz.prog 173 [ptr b5, ptr b3, ptr b7] W (AskR g (Qj5 (qwO g.E g.R) op (a0 (sg f)).1 (a1 (sg f)).1, (a0 (sg f)).2 + (a1 (sg f)).2) W f s) (AskE g (Qj5 (qwO g.E g.R) op (a0 (sg f)).1 (a1 (sg f)).1, (a0 (sg f)).2 + (a1 (sg f)).2) W s) := by
 obtain ⟨b0, off, kcap, fn, first, caps, hbc, _, hA⟩ := Jm1 hK (i := 0) rfl
 obtain ⟨hbx, hc0⟩ := hbc W hW
 refine Zp Tryz.call173 Tryz.func173 ?_
 refine zS ?_
 refine Zl rfl hbx ?_
 refine zo rfl rfl (by simp only [AllP, List.length_cons, List.length_nil]; omega) ?_
 refine Zo (v := .func (.func fn) first caps) rfl hc0 ?_
 refine Jh0 (first := first) (cap := caps) (hA W f s hW h hs) rfl sI rfl rfl (fun v w' hE => Jo3 (Kp.refl _ _) hE (c := 0) rfl sI) ?_
 rintro v w1 ⟨rfl, g1, g2, g3⟩
 obtain ⟨b0', off', kcap', fn', first', caps', hbc', _, hA'⟩ := Jm1 hK (i := 1) rfl
 obtain ⟨hbx', hc0'⟩ := hbc' _ (hW.trans g3)
 refine zS ?_
 refine Zl rfl hbx' ?_
 refine zo rfl rfl (by simp only [AllP, List.length_cons, List.length_nil]; omega) ?_
 refine Zo (v := .func (.func fn') first' caps') rfl hc0' ?_
 refine Jh0 (first := first') (cap := caps') (hA' w1 f (s + (a0 (sg f)).2) (hW.trans g3) g2 g1) rfl sI rfl rfl (fun v w' hE => Jo3 g3 hE (c := (a0 (sg f)).2) rfl sI) ?_
 rintro v w2 ⟨rfl, j1, j2, j3⟩
 have k2 := (hW.trans g3).trans j3
 refine zS ?_
 refine Zl rfl (k2.blk h3o h3) ?_
 refine Zl rfl (k2.blk h7o h7) ?_
 refine zS ?_
 refine Zc (pair_ret j2 op (a0 (sg f)).1 (a1 (sg f)).1) ?_
 rintro v w3 ⟨rfl, k3⟩
 refine zS ?_
 exact ⟨_, rfl, rfl, by dsimp only; omega, by dsimp only; rw [← Nat.add_assoc]; exact j2.kp0 k3, (g3.trans j3).trans (k3.mono sI)⟩
theorem work7_ok {w0 : World} {b5 b3 b7 : Nat} {op : Int} {a0 : Ans} (hK : KBox g w0 b5 [a0]) (hW : Kp g.F w0 W) (h : MAt W g f s) (hs : s ≤ g.fuel) (h3 : Blk w0 b3 [ptr g.p] 111) (h3o : b3 ∉ g.F) (h7 : Blk w0 b7 [I op] 51) (h7o : b7 ∉ g.F) :
  RetP Tryz.prog 171 [ptr b3, ptr b7, ptr b5] W (AskR g (partQ g.E op (a0 (sg f)).1, (a0 (sg f)).2) W f s) (AskE g (partQ g.E op (a0 (sg f)).1, (a0 (sg f)).2) W s) := by
 obtain ⟨b0, off, kcap, fn, first, caps, hbc, _, hA⟩ := Jm1 hK (i := 0) rfl
 obtain ⟨hbx, hc0⟩ := hbc W hW
 refine Zp Tryz.call171 Tryz.func171 ?_
 refine zS ?_
 refine Ja9 ?_
 refine Jd8 (α := Unit) [3] (fun _ => [I (partQ g.E op (a0 (sg f)).1)]) (fun _ W' => s + (a0 (sg f)).2 ≤ g.fuel ∧ MAt W' g f (s + (a0 (sg f)).2) ∧ Kp g.F W W') ?_ ?_
 ·refine Jo6 (fun w' => Kp g.F W w') [(0, false), (1, false), (2, false), (3, false), (4, false), (5, true), (6, true), (7, false)] Ja0 kR kR kR ((Sm.drew W).kp _) ?_
  have sd := Sm.drew W
  generalize ({ W with drawn := W.drawn + 1 } : World) = wd at sd ⊢
  have kd : Kp g.F W wd := sd.kp _
  have hMd := h.kp0 (sd.kp [])
  refine Zy rfl rfl (fun w' h' => ((hW.trans h').blk h3o h3).cell rfl) ?_
  refine Zy rfl rfl (fun w' h' => ((hW.trans h').blk h7o h7).cell rfl) ?_
  refine Zy rfl rfl (fun w' h' => (hbc w' (hW.trans h')).1.cell rfl) ?_
  refine xo rfl rfl (by simp only [AllP, List.length_cons, List.length_nil]; omega) ?_
  refine Zy (v := .func (.func fn) first caps) rfl rfl (fun w' h' => (hbc w' (hW.trans h')).2) ?_
  refine Jh2 rfl ?_
  refine Jh0 (first := first) (cap := caps) (hA wd f s (hW.trans kd) hMd hs) rfl sI rfl rfl (fun v w' hE => Jo3 kd hE (c := 0) rfl sI) ?_
  rintro v w1 ⟨rfl, g1, g2, g3⟩
  refine Ja6 ⟨.inr (kd.trans g3), ?_⟩
  refine Jh2 rfl ?_
  refine Zc (part_ret g2 op (a0 (sg f)).1) ?_
  rintro v w2 ⟨rfl, k2⟩
  refine Ja6 ⟨.inr ((kd.trans g3).trans (k2.mono sI)), ?_⟩
  refine zX ?_
  exact ⟨(), rfl, g1, g2.kp0 k2, (kd.trans g3).trans (k2.mono sI)⟩
 rintro _ e3 w3 ⟨g1, g2, g3⟩
 refine zS ?_
 exact ⟨_, rfl, rfl, g1, g2, g3⟩
end
section
variable {g : MG} {W : World} {f : List UInt8 → Option Int} {s : Nat}
def resF (f : List UInt8 → Option Int) (name : List UInt8) (was : Int) (had : Bool) : List UInt8 → Option Int := fun k => if k = name then (if had then some was else none) else f k
theorem upT_put (f : List UInt8 → Option Int) (name : List UInt8) (x : Int) : upTx (fun k => (f k).map fun x => I x) name (some (I x)) = fun k => ((resF f name x true) k).map fun x => I x := by
 funext k
 unfold upTx resF
 split <;> rfl
theorem upT_del (f : List UInt8 → Option Int) (name : List UInt8) (x : Int) : upTx (fun k => ((resF f name x true) k).map fun x => I x) name none = fun k => ((resF f name x false) k).map fun x => I x := by
 funext k
 unfold upTx resF
 split
 ·rfl
 ·rename_i h; simp [h]
theorem MAt.put {w' : World} {F' : List UInt8 → Option Int} (h : MAt W g f s) (hg : g.Ok) (hu : Qc3 W g.mm (fun k => (F' k).map fun x => I x) w') : MAt w' g F' s := by
 have hk : Kp [g.mm] W w' := hu.kp [g.mm] (.inl sI)
 refine ⟨hk.blk (by simpa using hg.ne) h.hdr, hu.at_, h.ord.kp hk (fun b hb => ?_)⟩
 have := hg.op b hb
 simp only [MG.F, List.mem_cons, List.not_mem_nil, or_false, not_or] at this
 simpa using this.2
theorem bindD_ret {u : FrameMode} (h : MAt W g f s) (hg : g.Ok) {bw bm bt bh q : Nat} {cs : List Value} {name : List UInt8} {was : Int} {had : Bool} (hw : Blk W bw [I was] 3) (hm : Blk W bm [ptr g.p] 111) (ht : Blk W bt [ptr q] 87) (hh : Blk W bh [.bool had] 4)
  (hq : Blk W q cs 121) (hn : cs[3]? = some (S name)) (ho : ∀ b ∈ [bw, bm, bt, bh, q], b ≠ g.mm) :
  DRet Tryz.prog 187 [ptr bw, ptr bm, ptr bt, ptr bh] u W (fun u' w' => u' = u ∧ MAt w' g (resF f name was had) s ∧ Kp [g.mm] W w') := by
 have hH := h.hdr
 simp only [List.mem_cons, List.not_mem_nil, or_false, forall_eq_or_imp, forall_eq] at ho
 obtain ⟨o1, o2, o3, o4, o5⟩ := ho
 refine enterDf Tryz.call187 Tryz.func187 rfl rfl rfl rfl ?_
 refine Ja9 ?_
 refine Jd8 (α := Unit) [1, 2, 3] (fun _ => [ptr bm, ptr bt, ptr bh]) (fun _ w' => MAt w' g (resF f name was true) s ∧ Kp [g.mm] W w') ?_ ?_
 ·refine Je9 Ja0 rfl kR kR ?_
  refine zM hm ?_
  refine zM hH ?_
  refine zM ht ?_
  refine Zq (v := S name) rfl (fun _ hs => (Sm.blk hs hq).cell hn) ?_
  refine zM hw ?_
  intro w1 hs
  have hM1 := h.kp0 (hs.kp [])
  refine o_mapSetT (v := I was) rfl rfl rfl hM1.map rfl rfl rfl rfl ?_
  intro w2 hu2
  rw [upT_put] at hu2
  exact Ja6 ⟨(), rfl, hM1.put hg hu2, (hs.kp _).trans (hu2.kp _ (.inl sI))⟩
 rintro _ e1 w1 ⟨hM1, k1⟩
 have hh1 := k1.blk (by simpa using o4) hh
 have hm1 := k1.blk (by simpa using o2) hm
 have ht1 := k1.blk (by simpa using o3) ht
 have hq1 := k1.blk (by simpa using o5) hq
 have hH1 := hM1.hdr
 refine zL hh1 ?_
 refine Je1 rfl (fun hb => ?_) (fun hb => ?_)
 ·have hb : had = false := by simpa using hb
  subst hb
  refine Je9 Ja0 rfl kR kR ?_
  refine zM hm1 ?_
  refine zM hH1 ?_
  refine zM ht1 ?_
  refine Zq (v := S name) rfl (fun _ hs => (Sm.blk hs hq1).cell hn) ?_
  refine zQ ?_
  intro w2 hs
  have hM2 := hM1.kp0 (hs.kp [])
  refine o_deleteT rfl rfl hM2.map rfl rfl rfl rfl ?_
  intro w3 hu3
  rw [upT_del] at hu3
  exact Ja6 ⟨hM2.put hg hu3, (k1.trans (hs.kp _)).trans (hu3.kp _ (.inl sI))⟩
 ·have hb : had = true := by simpa using hb
  subst hb
  refine zS ?_
  exact ⟨hM1, k1⟩
theorem resF_res {f' : List UInt8 → Option Int} {name : List UInt8} (h : ∀ k, k ≠ name → f' k = f k) : resF f' name ((f name).getD 0) (f name).isSome = f := by
 funext k
 unfold resF
 split
 ·rename_i h; subst h
  cases f k <;> rfl
 ·rename_i hk; exact h k hk
theorem sg_put {f' : List UInt8 → Option Int} {name : List UInt8} (h : ∀ k, k ≠ name → f' k = f k) (x : Int) : sg (resF f' name x true) = setV (sg f) name x := by
 funext k
 unfold sg resF setV
 by_cases hk : k = name
 ·simp [hk]
 ·simp [hk, h k hk]
theorem evs_get {Q : QW} {op : Int} {i : Nat} (hi : i < Q.n) : (evs Q op).drop i = (if op = 26 then ((Q.n - 1 - i : Nat) : Int) else (i : Int)) :: (evs Q op).drop (i + 1) := by
 have hl : (evs Q op).length = Q.n := by unfold evs; split <;> simp
 rw [List.drop_eq_getElem_cons oM]
 congr 1
 unfold evs
 split <;> simp
theorem evs_len {Q : QW} {op : Int} : (evs Q op).length = Q.n := by unfold evs; split <;> simp
noncomputable def bindA (g : MG) (op : Int) (name : List UInt8) (a : Ans) (σ : List UInt8 → Int) : Int × Nat := Je5 op (fun i => a (setV σ name i)) (evs (qwO g.E g.R) op) 0
theorem binds_ok (h : MAt W g f s) (hg : g.Ok) (hs : s ≤ g.fuel) {w0 : World} (hW : Kp g.F w0 W) {bm bt bk q k : Nat} {cs : List Value} {name : List UInt8} {vk : Value} {a : Ans} (hm : Blk w0 bm [ptr g.p] 111) (ht : Blk w0 bt [ptr q] 87) (hk : Blk w0 bk [vk] 201)
  (hq : Blk w0 q cs 121) (hn : cs[3]? = some (S name)) (hop : cs[0]? = some (I k)) (hk22 : 22 ≤ k ∧ k ≤ 26) (ho : ∀ b ∈ [bm, bt, bk, q], b ∉ g.F) (hA : AsksC g a w0 vk) :
  RetP Tryz.prog 186 [ptr bm, ptr bt, ptr bk] W (AskR g (bindA g k name a (sg f)) W f s) (AskE g (bindA g k name a (sg f)) W s) := by
 obtain ⟨fn, first, caps, rfl, hA⟩ := hA
 simp only [List.mem_cons, List.not_mem_nil, or_false, forall_eq_or_imp, forall_eq] at ho
 obtain ⟨o1, o2, o3, o4⟩ := ho
 have mmF : ∀ {b : Nat}, b ∉ g.F → b ≠ g.mm := fun hb e => hb (by rw [e]; simp [MG.F])
 have hF := hg.fu
 have hmW := hW.blk o1 hm
 have htW := hW.blk o2 ht
 have hqW := hW.blk o4 hq
 have hHW := h.hdr
 have hplt := hHW.lt
 have hmlt := h.map.lt
 have hnE := h.ord.small
 refine enterD Tryz.call186 Tryz.func186 rfl rfl rfl ?_
 refine t_seq (R := fun _ _ => False) (pan := fun _ _ => False) ?_ (fun _ _ _ _ h => h.elim) (fun _ _ _ _ h => h.elim)
 refine zS ?_
 refine t_seq (R := fun _ _ => False) (pan := fun _ _ => False) ?_ (fun _ _ _ _ h => h.elim) (fun _ _ _ _ h => h.elim)
 refine Jd8 (α := Nat × Nat) [0, 1, 2, 4, 5] (fun x => [ptr bm, ptr bt, ptr bk, ptr x.1, ptr x.2]) (fun x w' => Blk w' x.1 [I ((f name).getD 0)] 3 ∧ Blk w' x.2 [.bool (f name).isSome] 4 ∧ x.1 ≠ x.2 ∧ Kp [] W w' ∧ W.heap.size ≤ x.1 ∧ W.heap.size ≤ x.2) ?_ ?_
 ·refine Qj6 (fun w' => Kp [] W w') 17 Ja0 kR ?_
  have kk := (Sm.drew W).kp []
  generalize ({ W with drawn := W.drawn + 1 } : World) = wd at kk ⊢
  have zd := kk.size
  refine Ji9 [0, 1, 2, 3, 4, 5, 6, 7, 8, 9, 10, 11, 12] 4 kR kR kR kk ?_
  try dsimp only [List.map_cons, List.map_nil]
  refine Zy rfl rfl (fun w' h' => (h'.b0 hmW).cell rfl) ?_
  refine zX ?_
  refine Zy rfl rfl (fun w' h' => (h'.b0 hHW).cell rfl) ?_
  refine zX ?_
  refine Zy rfl rfl (fun w' h' => (h'.b0 htW).cell rfl) ?_
  refine zX ?_
  refine Zy (v := S name) rfl rfl (fun w' h' => (h'.b0 hqW).cell hn) ?_
  refine x_lookT2 (.tuple #[I ((f name).getD 0), .bool (f name).isSome]) rfl rfl rfl (fun w' h' => h.map.kp h' sI) (by cases f name <;> rfl) rfl rfl rfl rfl rfl rfl ?_
  refine zX ?_
  refine Jz9 13 14 kR rfl rfl ?_ ?_
  ·refine Za ?_
   intro x1 w1 hx1 hu1
   have k1 : Kp [] wd w1 := hu1.new oM
   refine Ja6 ⟨.inr (kk.trans k1), ?_⟩
   refine Je4 14 kR rfl ?_
   refine Za ?_
   intro x2 w2 hx2 hu2
   have l1 := hu1.lt
   have k2 : Kp [] w1 w2 := hu2.new oM
   refine Ja6 ⟨.inr (kk.trans (k1.trans k2)), ?_⟩
   have hne : x1 ≠ x2 := oM
   refine Je4 15 kR rfl ?_
   refine Zt (b := x1) (off := 0) (v := I ((f name).getD 0)) rfl (hu2.kept hne hu1.blk) dE ?_
   intro w3 hu3
   have k3 : Kp [] wd w3 := (k1.trans k2).since (hu3.kp [x1] (.inl sI)) (by simp; omega)
   refine Ja6 ⟨.inr (kk.trans k3), ?_⟩
   refine Je4 16 kR rfl ?_
   refine Zt (b := x2) (off := 0) (v := .bool (f name).isSome) rfl (hu3.kept hne.symm hu2.blk) dE ?_
   intro w4 hu4
   have k4 : Kp [] wd w4 := k3.since (hu4.kp [x2] (.inl sI)) (by have := k1.size; simp; omega)
   refine Ja6 ⟨.inl kR, Qi6 kR ?_⟩
   exact ⟨(x1, x2), rfl, hu4.kept hne hu3.blk, hu4.blk, hne, kk.trans k4, by dsimp only; omega, by have := k1.size; dsimp only; omega⟩
  ·refine Za ?_
   intro x2 w1 hx2 hu1
   have k1 : Kp [] wd w1 := hu1.new oM
   refine Ja6 ⟨.inr (kk.trans k1), ?_⟩
   refine Je4 13 kR rfl ?_
   refine Za ?_
   intro x1 w2 hx1 hu2
   have l1 := hu1.lt
   have k2 : Kp [] w1 w2 := hu2.new oM
   refine Ja6 ⟨.inr (kk.trans (k1.trans k2)), ?_⟩
   have hne : x1 ≠ x2 := oM
   refine Je4 15 kR rfl ?_
   refine Zt (b := x1) (off := 0) (v := I ((f name).getD 0)) rfl hu2.blk dE ?_
   intro w3 hu3
   have k3 : Kp [] wd w3 := (k1.trans k2).since (hu3.kp [x1] (.inl sI)) (by have := k1.size; simp; omega)
   refine Ja6 ⟨.inr (kk.trans k3), ?_⟩
   refine Je4 16 kR rfl ?_
   refine Zt (b := x2) (off := 0) (v := .bool (f name).isSome) rfl (hu3.kept hne.symm (hu2.kept hne.symm hu1.blk)) dE ?_
   intro w4 hu4
   have k4 : Kp [] wd w4 := k3.since (hu4.kp [x2] (.inl sI)) (by simp; omega)
   refine Ja6 ⟨.inl kR, Qi6 kR ?_⟩
   exact ⟨(x1, x2), rfl, hu4.kept hne hu3.blk, hu4.blk, hne, kk.trans k4, by have := k1.size; dsimp only; omega, by dsimp only; omega⟩
 rintro ⟨bw, bh⟩ e1 w1 ⟨hbw, hbh, hwh, k1, hgw, hgh⟩
 dsimp only at hbw hbh hwh hgw hgh ⊢
 have h1 := h.kp0 k1
 have hwF : bw ∉ g.F := by simp [MG.F]; omega
 have hhF : bh ∉ g.F := by simp [MG.F]; omega
 have hW1 := hW.trans (k1.mono sI)
 refine t_seqD ?_
 refine Ju5 rfl rfl ?_
 refine oq_defer rfl rfl ?_
 refine oq_nil ?_
 have rest : ∀ {u : FrameMode} {f' : List UInt8 → Option Int} {s' : Nat} {w' : World}, MAt w' g f' s' → Kp g.F w1 w' → DRet Tryz.prog 187 [ptr bw, ptr bm, ptr bt, ptr bh] u w' (fun u' w'' => u' = u ∧ MAt w'' g (resF f' name ((f name).getD 0) (f name).isSome) s' ∧ Kp [g.mm] w' w'') := by
  intro u f' s' w' hM kw
  refine bindD_ret hM hg (kw.blk hwF hbw) ((hW1.trans kw).blk o1 hm) ((hW1.trans kw).blk o2 ht) (kw.blk hhF hbh) ((hW1.trans kw).blk o4 hq) hn ?_
  simp only [List.mem_cons, List.not_mem_nil, or_false, forall_eq_or_imp, forall_eq]
  exact ⟨mmF hwF, mmF o1, mmF o2, mmF hhF, mmF o4⟩
 generalize hans : bindA g k name a (sg f) = ans
 refine t_of (K := fun _ _ => False) (R := fun e w' => e 3 = I ans.1 ∧ s + ans.2 ≤ g.fuel ∧ Kp g.F w1 w' ∧ ∃ f', (∀ k, k ≠ name → f' k = f k) ∧ MAt w' g f' (s + ans.2))
  (pan := fun v w' => g.fuel < s + ans.2 ∧ v = tiredV ∧ Kp g.F w1 w' ∧ ∃ f' s', MAt w' g f' s') ?_ (fun _ _ _ _ h => h.elim) (fun a' e w' hfit hR => ?_) (fun a' v w' hd hE => ?_)
 ·generalize hQ : qwO g.E g.R = Q at hans
  have hQn : Q.n = g.E.length := by rw [← hQ]; rfl
  have hm1 := hW1.blk o1 hm
  have hH1 := h1.hdr
  have keepW : ∀ {w' : World}, Kp g.F w1 w' → Blk w' bm [ptr g.p] 111 ∧ Blk w' bt [ptr q] 87 ∧ Blk w' bk [.func (.func fn) first caps] 201 ∧ Blk w' q cs 121 := fun kw => ⟨(hW1.trans kw).blk o1 hm, (hW1.trans kw).blk o2 ht, (hW1.trans kw).blk o3 hk, (hW1.trans kw).blk o4 hq⟩
  refine zL hm1 ?_
  refine zL hH1 ?_
  refine Zc (Jy9 h1.ord.toOrB) ?_
  rintro v w1' ⟨rfl, rfl⟩
  have hans0 : ans = ((Je5 k (fun i => a (setV (sg f) name i)) ((evs Q k).drop 0) ((0 : Nat) : Int)).1, (s - s) + (Je5 k (fun i => a (setV (sg f) name i)) ((evs Q k).drop 0) ((0 : Nat) : Int)).2) := by
   rw [← hans]; unfold bindA; rw [hQ]; simp
  refine zS ?_
  refine Jb4 (α := Nat × Nat × Nat × (List UInt8 → Option Int)) [0, 1, 2, 6, 7, 29, 30] (fun x => [ptr bm, ptr bt, ptr bk, I g.E.length, I x.2.1, I g.E.length, I x.1])
   (fun x w' => x.1 ≤ g.E.length ∧ x.2.1 ≤ x.1 ∧ s ≤ x.2.2.1 ∧ x.2.2.1 ≤ g.fuel ∧ Kp g.F w1' w' ∧ (∀ k, k ≠ name → x.2.2.2 k = f k) ∧ MAt w' g x.2.2.2 x.2.2.1 ∧
    ans = ((Je5 k (fun i => a (setV (sg f) name i)) ((evs Q k).drop x.1) (x.2.1 : Int)).1, (x.2.2.1 - s) + (Je5 k (fun i => a (setV (sg f) name i)) ((evs Q k).drop x.1) (x.2.1 : Int)).2))
   (fun x => g.E.length - x.1) (0, 0, s, f) rfl ⟨Nat.zero_le _, lR, lR, hs, Kp.refl _ _, fun _ _ => rfl, h1, hans0⟩ ?_
  clear hans0
  rintro ⟨i, c, sc, f'⟩ e2 w2 ⟨hi, hc, hsc, hscf, k2, hf', hM2, hT⟩
  dsimp only at hi hc hsc hscf hf' hM2 hT ⊢
  refine zS ?_
  refine r_if rfl (fun hlt => ?_) (fun hlt => ?_)
  ·have hi2 : i < g.E.length := oM
   have hT' := hT
   rw [evs_get oM, hQn] at hT'
   obtain ⟨hm2, ht2, hk2, hq2⟩ := keepW k2
   refine zL ht2 ?_
   refine Jf4 rfl hq2 hop rfl rfl rfl rfl ?_
   refine zS ?_
   refine Jd8 (α := Unit) [0, 1, 2, 6, 7, 8, 29, 30] (fun _ => [ptr bm, ptr bt, ptr bk, I g.E.length, I c, I (if (k : Int) = 26 then ((g.E.length - 1 - i : Nat) : Int) else (i : Int)), I g.E.length, I i]) (fun _ w' => w' = w2) ?_ ?_
   ·refine r_if rfl (fun h26 => ?_) (fun h26 => ?_)
    ·rw [if_pos h26]
     refine zS ?_
     refine ⟨(), ?_, rfl⟩
     have e : (g.E.length : Int) - 1 - i = ((g.E.length - 1 - i : Nat) : Int) := oM
     rw [← e]; rfl
    ·rw [if_neg h26]
     refine zS ?_
     exact ⟨(), rfl, rfl⟩
   rintro _ e3 w2' rfl
   generalize (if (k : Int) = 26 then ((g.E.length - 1 - i : Nat) : Int) else (i : Int)) = x at hT' ⊢
   refine Ja9 ?_
   refine Jd8 (α := Unit) [0, 1, 2, 6, 7, 8, 29, 30] (fun _ => [ptr bm, ptr bt, ptr bk, I g.E.length, I c, I x, I g.E.length, I i]) (fun _ w' => MAt w' g (resF f' name x true) sc ∧ Kp g.F w1' w') ?_ ?_
   ·have hH2 := hM2.hdr
    refine Je9 Ja0 rfl kR kR ?_
    refine zM hm2 ?_
    refine zM hH2 ?_
    refine zM ht2 ?_
    refine Zq (v := S name) rfl (fun _ hs => (Sm.blk hs hq2).cell hn) ?_
    refine zQ ?_
    intro w3 hs3
    have hM3 := hM2.kp0 (hs3.kp [])
    refine o_mapSetT (v := I x) rfl rfl rfl hM3.map rfl rfl rfl rfl ?_
    intro w4 hu4
    rw [upT_put] at hu4
    exact Ja6 ⟨(), rfl, hM3.put hg hu4, (k2.trans (hs3.kp _)).trans (hu4.kp _ (.inl (by simp [MG.F])))⟩
   rintro _ e4 w4 ⟨hM4, k4⟩
   have hsg := sg_put hf' x
   obtain ⟨hm4, ht4, hk4, hq4⟩ := keepW k4
   have hcall := hA w4 (resF f' name x true) sc (hW1.trans k4) hM4 hscf
   rw [hsg] at hcall
   generalize hV : a (setV (sg f) name x) = V at hcall hT'
   have hT2 : ans = (if (k : Int) = 23 ∧ V.1 ≠ 1 then (0, (sc - s) + V.2) else if (k : Int) = 22 ∧ V.1 = 1 then (1, (sc - s) + V.2) else if ((k : Int) = 25 ∨ (k : Int) = 26) ∧ V.1 = 1 then (x, (sc - s) + V.2)
     else ((Je5 k (fun i => a (setV (sg f) name i)) ((evs Q k).drop (i + 1)) (c + trI (decide (V.1 = 1)))).1, (sc - s) + (V.2 + (Je5 k (fun i => a (setV (sg f) name i)) ((evs Q k).drop (i + 1)) (c + trI (decide (V.1 = 1)))).2))) := by
    rw [hT', Je5, hV]
    split
    ·rfl
    ·split
     ·rfl
     ·split <;> rfl
   have hge : (sc - s) + V.2 ≤ ans.2 := by
    rw [hT2]
    split
    ·exact lR
    ·split
     ·exact lR
     ·split
      ·exact lR
      ·show _ ≤ (sc - s) + (V.2 + _); omega
   clear hT hT'
   refine zL hk4 ?_
   refine Jh0 (first := first) (cap := caps) hcall rfl sI rfl rfl (fun v w' hE => ?_) ?_
   ·obtain ⟨j1, j2, j3, j4⟩ := hE
    exact ⟨oM, j2, k4.trans j3, j4⟩
   rintro v w5 ⟨rfl, j1, hM5, j3⟩
   have k5 := k4.trans j3
   obtain ⟨hm5, ht5, hk5, hq5⟩ := keepW k5
   refine zS ?_
   have done : ∀ {z : Int} {e : Env}, ans = (z, (sc - s) + V.2) → e 3 = I z → e 3 = I ans.1 ∧ s + ans.2 ≤ g.fuel ∧ Kp g.F w1' w5 ∧ ∃ f', (∀ k, k ≠ name → f' k = f k) ∧ MAt w5 g f' (s + ans.2) := by
    intro z e h1 h2
    have h3 : s + ans.2 = sc + V.2 := by rw [h1]; show s + ((sc - s) + V.2) = _; omega
    refine ⟨by rw [h1]; exact h2, oM, k5, resF f' name x true, fun k hk => ?_, by rw [h3]; exact hM5⟩
    unfold resF; rw [if_neg hk]; exact hf' k hk
   refine Jn9 [0, 1, 2, 6, 7, 8, 9, 29, 30] [ptr bm, ptr bt, ptr bk, I g.E.length, I c, I x, .bool (decide (V.1 = 1)), I g.E.length, I i] 56 (decide ((k : Int) = 23) && !decide (V.1 = 1)) (fun w' => w' = w5) ?_ ?_
   ·refine zL ht5 ?_
    refine Jf4 rfl hq5 hop rfl rfl rfl rfl ?_
    refine zS ?_
    refine Ja5 _ _ rfl rfl rfl (fun hb => ?_) (fun hb => ?_)
    ·refine zS ?_
     exact ⟨rfl, ⟨_, rfl, by rw [hb]; rfl⟩, rfl⟩
    ·refine zS ?_
     exact ⟨rfl, ⟨_, rfl, by rw [hb]; rfl⟩, rfl⟩
   rintro e6 w6 rfl
   refine Je1 rfl (fun hb => ?_) (fun hb => ?_)
   ·have hb : (k : Int) = 23 ∧ V.1 ≠ 1 := by simpa using hb
    rw [if_pos hb] at hT2
    refine zS ?_
    exact done hT2 rfl
   have hb1 : ¬ ((k : Int) = 23 ∧ V.1 ≠ 1) := by
    rintro ⟨h1, h2⟩
    rw [decide_eq_true h1, decide_eq_false h2] at hb; cases hb
   rw [if_neg hb1] at hT2
   refine Ja9 ?_
   refine Jr3 [0, 1, 2, 6, 7, 8, 9, 29, 30] [ptr bm, ptr bt, ptr bk, I g.E.length, I c, I x, .bool (decide (V.1 = 1)), I g.E.length, I i] 67 (decide ((k : Int) = 22) && decide (V.1 = 1)) (fun w' => w' = w6) ?_ ?_
   ·refine zL ht5 ?_
    refine Jf4 rfl hq5 hop rfl rfl rfl rfl ?_
    refine zS ?_
    refine Ja5 _ _ rfl rfl rfl (fun hb => ?_) (fun hb => ?_)
    ·refine zS ?_
     exact ⟨rfl, ⟨_, rfl, by rw [hb]; rfl⟩, rfl⟩
    ·refine zS ?_
     exact ⟨rfl, ⟨_, rfl, by rw [hb]; rfl⟩, rfl⟩
   rintro e7 w7 rfl
   refine Je1 rfl (fun hb => ?_) (fun hb => ?_)
   ·have hb : (k : Int) = 22 ∧ V.1 = 1 := by simpa using hb
    rw [if_pos hb] at hT2
    refine zS ?_
    exact done hT2 rfl
   have hb2 : ¬ ((k : Int) = 22 ∧ V.1 = 1) := by
    rintro ⟨h1, h2⟩
    rw [decide_eq_true h1, decide_eq_true h2] at hb; cases hb
   rw [if_neg hb2] at hT2
   refine Ja9 ?_
   refine Jr3 [0, 1, 2, 6, 7, 8, 9, 29, 30] [ptr bm, ptr bt, ptr bk, I g.E.length, I c, I x, .bool (decide (V.1 = 1)), I g.E.length, I i] 77 ((decide ((k : Int) = 25) || decide ((k : Int) = 26)) && decide (V.1 = 1)) (fun w' => w' = w7) ?_ ?_
   ·refine zL ht5 ?_
    refine Jf4 rfl hq5 hop rfl rfl rfl rfl ?_
    refine zS ?_
    refine Ja5 _ _ rfl rfl rfl (fun hb => ?_) (fun hb => ?_)
    ·refine zS ?_
     exact ⟨rfl, ⟨_, rfl, by rw [hb]; rfl⟩, rfl⟩
    ·refine zL ht5 ?_
     refine Jf4 rfl hq5 hop rfl rfl rfl rfl ?_
     refine zS ?_
     refine Ja5 _ _ rfl rfl rfl (fun hb2 => ?_) (fun hb2 => ?_)
     ·refine zS ?_
      exact ⟨rfl, ⟨_, rfl, by rw [hb, hb2]; rfl⟩, rfl⟩
     ·refine zS ?_
      exact ⟨rfl, ⟨_, rfl, by rw [hb, hb2]; rfl⟩, rfl⟩
   rintro e8 w8 rfl
   refine Je1 rfl (fun hb => ?_) (fun hb => ?_)
   ·have hb : ((k : Int) = 25 ∨ (k : Int) = 26) ∧ V.1 = 1 := by simpa using hb
    rw [if_pos hb] at hT2
    refine zS ?_
    exact done hT2 rfl
   have hb3 : ¬ (((k : Int) = 25 ∨ (k : Int) = 26) ∧ V.1 = 1) := by
    rintro ⟨h1, h2⟩
    rw [decide_eq_true h2, Bool.and_true, Bool.or_eq_false_iff, decide_eq_false_iff_not, decide_eq_false_iff_not] at hb
    rcases h1 with h1 | h1
    ·exact hb.1 h1
    ·exact hb.2 h1
   rw [if_neg hb3] at hT2
   have next : ∀ c' : Nat, (c' : Int) = c + trI (decide (V.1 = 1)) → ans = ((Je5 k (fun i => a (setV (sg f) name i)) ((evs Q k).drop (i + 1)) (c' : Int)).1, (sc + V.2 - s) + (Je5 k (fun i => a (setV (sg f) name i)) ((evs Q k).drop (i + 1)) (c' : Int)).2) := by
    intro c' hc'
    rw [hT2, hc']
    congr 1; omega
   have hf2 : ∀ k, k ≠ name → resF f' name x true k = f k := fun k hk => by unfold resF; rw [if_neg hk]; exact hf' k hk
   refine zS ?_
   refine Je1 rfl (fun hb => ?_) (fun hb => ?_)
   ·refine zS ?_
    exact ⟨(i + 1, c + 1, sc + V.2, resF f' name x true), rfl, ⟨by dsimp only; omega, by dsimp only; omega, by dsimp only; omega, j1, k5, hf2, hM5, next (c + 1) (by rw [hb]; rfl)⟩, by dsimp only; omega⟩
   ·refine zS ?_
    exact ⟨(i + 1, c, sc + V.2, resF f' name x true), rfl, ⟨by dsimp only; omega, by dsimp only; omega, by dsimp only; omega, j1, k5, hf2, hM5, next c (by rw [hb]; show (c : Int) = c + 0; omega)⟩, by dsimp only; omega⟩
  ·have hi3 : i = g.E.length := oM
   subst hi3
   rw [List.drop_eq_nil_of_le (by rw [evs_len]; omega)] at hT
   have hT : ans = (if (k : Int) = 23 then 1 else if (k : Int) = 25 ∨ (k : Int) = 26 then -1 else (c : Int), sc - s) := hT
   obtain ⟨hm2, ht2, hk2, hq2⟩ := keepW k2
   have hst : s + ans.2 = sc := by rw [hT]; show s + (sc - s) = sc; omega
   have done : ∀ {z : Int} {e : Env}, ans.1 = z → e 3 = I z → e 3 = I ans.1 ∧ s + ans.2 ≤ g.fuel ∧ Kp g.F w1' w2 ∧ ∃ f', (∀ k, k ≠ name → f' k = f k) ∧ MAt w2 g f' (s + ans.2) := fun h1 h2 =>
    ⟨by rw [h1]; exact h2, oM, k2, f', hf', by rw [hst]; exact hM2⟩
   refine zL ht2 ?_
   refine Jf4 rfl hq2 hop rfl rfl rfl rfl ?_
   refine zS ?_
   refine r_if rfl (fun h23 => ?_) (fun h23 => ?_)
   ·refine zS ?_
    exact done (by rw [hT]; exact if_pos h23) rfl
   refine zS ?_
   refine Jr3 [7] [I c] 108 (decide ((k : Int) = 25 ∨ (k : Int) = 26)) (fun w' => w' = w2) ?_ ?_
   ·refine r_if rfl (fun h25 => ?_) (fun h25 => ?_)
    ·refine zS ?_
     exact ⟨rfl, ⟨_, rfl, by simp [h25]⟩, rfl⟩
    ·refine zS ?_
     exact ⟨rfl, ⟨_, rfl, by rw [decide_eq_decide]; omega⟩, rfl⟩
   rintro e9 w9 rfl
   refine Je1 rfl (fun hb => ?_) (fun hb => ?_)
   ·have hb := of_decide_eq_true hb
    refine zS ?_
    exact done (by rw [hT]; show (if (k : Int) = 23 then 1 else _) = _; rw [if_neg h23, if_pos hb]) rfl
   ·have hb := of_decide_eq_false hb
    refine zS ?_
    exact done (by rw [hT]; show (if (k : Int) = 23 then 1 else _) = _; rw [if_neg h23, if_neg hb]) rfl
 ·obtain ⟨h3, g1, g2, f', g3, g4⟩ := hR
  refine Qe0 hfit (Jt2 (cap := [ptr bw, ptr bm, ptr bt, ptr bh]) (by intro h; cases h) ((rest g4 g2).mono ?_))
  rintro u' w'' ⟨rfl, j1, j2⟩
  rw [resF_res g3] at j1
  exact Jt3 rfl hfit (us := [I ans.1]) ⟨⟨none, by rw [h3]; rfl⟩, trivial⟩ ⟨rfl, g1, j1, ((k1.mono sI).trans g2).trans (j2.mono (by simp [MG.F]))⟩
 ·obtain ⟨g1, rfl, g2, f', s', g4⟩ := hE
  refine body_pan hd (Jt2 (cap := [ptr bw, ptr bm, ptr bt, ptr bh]) (by intro h; cases h) ((rest g4 g2).mono ?_))
  rintro u' w'' ⟨rfl, j1, j2⟩
  exact goes_pan ⟨g1, rfl, ((k1.mono sI).trans g2).trans (j2.mono (by simp [MG.F])), _, _, j1⟩
end
end Go.Vc
