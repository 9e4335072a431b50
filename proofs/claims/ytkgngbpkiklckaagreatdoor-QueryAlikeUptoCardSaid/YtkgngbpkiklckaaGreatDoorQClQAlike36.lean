/- Query: what a node does when it is asked: the closures but for those that bind. -/
import Derived.Test.YtkgngbpkiklckaaGreatDoorQClQAlike35
namespace Go.Vc
open Go Go.Proofs
set_option maxRecDepth 10000
/-- what is thrown where the fuel is at its end -/
abbrev tiredV : Value := .iface 199 (.agg ⟨[]⟩)
/-- the names' numbers -/
def sg (f : List UInt8 → Option Int) : List UInt8 → Int := fun k => (f k).getD 0
def AskR (g : MG) (a : Int × Nat) (W : World) (f : List UInt8 → Option Int) (s : Nat) (v : Value) (W' : World) : Prop := v = I a.1 ∧ s + a.2 ≤ g.fuel ∧ MAt W' g f (s + a.2) ∧ Kp g.F W W'
def AskE (g : MG) (a : Int × Nat) (W : World) (s : Nat) (v : Value) (W' : World) : Prop := g.fuel < s + a.2 ∧ v = tiredV ∧ Kp g.F W W' ∧ ∃ f' s', MAt W' g f' s'
/-- a function's value that answers so, in all worlds to come -/
def AsksC (g : MG) (ans : (List UInt8 → Int) → Int × Nat) (w0 : World) (v : Value) : Prop :=
  ∃ fn first caps, v = .func (.func fn) first caps ∧ ∀ W f s, Kp g.F w0 W → MAt W g f s → s ≤ g.fuel → RetP Tryz.prog fn (first.toList ++ caps.toList) W (AskR g (ans (sg f)) W f s) (AskE g (ans (sg f)) W s)
theorem AsksC.kp {g : MG} {ans : (List UInt8 → Int) → Int × Nat} {w0 w1 : World} {v : Value} (h : AsksC g ans w0 v) (hk : Kp g.F w0 w1) : AsksC g ans w1 v := by
  obtain ⟨fn, first, caps, hv, h⟩ := h
  exact ⟨fn, first, caps, hv, fun W f s hk2 => h W f s (hk.trans hk2)⟩
/-- a node's answer without its own step -/
def evd (W : QW) : QT → (List UInt8 → Int) → Int × Nat
  | .n0 op num name, σ => (if op = 1 then num else if op = 2 then σ name else W.n, 0)
  | .n1 op _ name a, σ =>
    if 22 ≤ op then bindL op (fun i => evq W a (setV σ name i)) (evs W op) 0
    else (oneV W op (evq W a σ).1, (evq W a σ).2)
  | .n2 op _ _ a b, σ =>
    if op = 18 then (if (evq W a σ).1 = 1 then (trI (decide ((evq W b σ).1 = 1)), (evq W a σ).2 + (evq W b σ).2) else (0, (evq W a σ).2))
    else if op = 19 then (if (evq W a σ).1 = 1 then (1, (evq W a σ).2) else (trI (decide ((evq W b σ).1 = 1)), (evq W a σ).2 + (evq W b σ).2))
    else (pairV W op (evq W a σ).1 (evq W b σ).1, (evq W a σ).2 + (evq W b σ).2)
theorem evq_evd (W : QW) (t : QT) (σ : List UInt8 → Int) : evq W t σ = ((evd W t σ).1, 1 + (evd W t σ).2) := by
  cases t with
  | n0 => rfl
  | n1 op num name a => by_cases h : 22 ≤ op <;> simp [evq, evd, h]
  | n2 op num name a b =>
    by_cases h1 : op = 18
    · by_cases h2 : (evq W a σ).1 = 1 <;> simp [evq, evd, h1, h2, Nat.add_assoc]
    · by_cases h3 : op = 19
      · by_cases h2 : (evq W a σ).1 = 1 <;> simp [evq, evd, h3, h2, Nat.add_assoc]
      · simp [evq, evd, h1, h3, Nat.add_assoc]
variable {g : MG} {W : World} {f : List UInt8 → Option Int} {s : Nat}
abbrev Ans := (List UInt8 → Int) → Int × Nat
/-- kids' functions in a box -/
structure KBox (g : MG) (w0 : World) (b5 : Nat) (cs : List Ans) : Prop where
  ex : ∃ kad kcap vs, Blk w0 b5 [.slice kad cs.length kcap] 246 ∧ ReadS w0 kad vs ∧ (∀ b ∈ blkOf kad, b ∉ g.F) ∧ vs.length = cs.length ∧ ∀ (i : Nat) v a, vs[i]? = some v → cs[i]? = some a → AsksC g a w0 v
  out : b5 ∉ g.F
theorem kbox_kid {w0 : World} {b5 : Nat} {cs : List Ans} (h : KBox g w0 b5 cs) {i : Nat} {a : Ans} (hi : cs[i]? = some a) :
    ∃ b0 off kcap fn first caps, (∀ W, Kp g.F w0 W → Blk W b5 [.slice (some ⟨b0, off, none⟩) cs.length kcap] 246 ∧ W.cell? ⟨b0, off + i, none⟩ = some (.func (.func fn) first caps)) ∧ i < cs.length ∧
      ∀ W' f s, Kp g.F w0 W' → MAt W' g f s → s ≤ g.fuel → RetP Tryz.prog fn (first.toList ++ caps.toList) W' (AskR g (a (sg f)) W' f s) (AskE g (a (sg f)) W' s) := by
  obtain ⟨⟨kad, kcap, vs, h1, h2, h6, h3, h4⟩, h5⟩ := h
  have hil := (List.getElem?_eq_some_iff.1 hi).1
  obtain ⟨v, hv⟩ : ∃ v, vs[i]? = some v := ⟨_, List.getElem?_eq_getElem (by omega)⟩
  obtain ⟨fn, first, caps, rfl, hA⟩ := h4 i v a hv hi
  obtain ⟨b0, off, rfl, _, _⟩ := h2.at_ (by omega)
  refine ⟨b0, off, kcap, fn, first, caps, fun W hW => ⟨hW.blk h5 h1, ?_⟩, hil, hA⟩
  have hR := h2.kp hW h6
  have := hR i _ hv
  rwa [addr_lit] at this
theorem askE_of {a : Int × Nat} {W1 : World} {s1 : Nat} {v : Value} {W' : World} {c : Nat} {a' : Int × Nat} (k1 : Kp g.F W W1) (hE : AskE g a W1 s1 v W') (hs : s1 = s + c) (hc : c + a.2 ≤ a'.2) : AskE g a' W s v W' := by
  obtain ⟨h1, h2, h3, h4⟩ := hE
  exact ⟨by omega, h2, k1.trans h3, h4⟩
/-- a number -/
theorem work1_ok (h : MAt W g f s) (hs : s ≤ g.fuel) {b4 q lo : Nat} {num op : Int} {name : List UInt8} (h4 : Blk W b4 [ptr q] 87) (hT : TreeAt shQ lo W (.n0 op num name) q) : RetP Tryz.prog 163 [ptr b4] W (AskR g (num, 0) W f s) (AskE g (num, 0) W s) := by
  obtain ⟨_, ad, cap, hB⟩ := hT
  refine enterP Tryz.call163 Tryz.func163 rfl rfl rfl rfl ?_
  (repeat first|refine zA ?_|refine zg ?_|refine zo rfl rfl trivial ?_|refine zn ?_|refine o_load rfl h4 rfl rfl rfl rfl rfl ?_)
  refine o_load (v := I num) rfl hB rfl rfl rfl rfl rfl ?_
  (repeat first|refine zo rfl rfl trivial ?_|refine zn ?_|refine zr ?_)
  exact ⟨_, rfl, rfl, hs, h, Kp.refl _ _⟩
/-- a name -/
theorem work2_ok (h : MAt W g f s) (hs : s ≤ g.fuel) {b3 b4 q lo : Nat} {num op : Int} {name : List UInt8} (h3 : Blk W b3 [ptr g.p] 111) (h4 : Blk W b4 [ptr q] 87) (hT : TreeAt shQ lo W (.n0 op num name) q) : RetP Tryz.prog 164 [ptr b3, ptr b4] W (AskR g (sg f name, 0) W f s) (AskE g (sg f name, 0) W s) := by
  obtain ⟨_, ad, cap, hB⟩ := hT
  have hH := h.hdr
  refine enterP Tryz.call164 Tryz.func164 rfl rfl rfl rfl ?_
  (repeat first|refine zA ?_|refine zg ?_|refine zo rfl rfl trivial ?_|refine zn ?_)
  refine r_seq ?_
  refine r_cut (α := Unit) [2] (fun _ => [I (sg f name)]) (fun _ W' => Kp [] W W') ?_ ?_
  · refine r_quietK follows_mixed (by kernel_rfl) ?_
    (repeat first|refine yo rfl rfl trivial ?_|refine q_load rfl (fun _ hs => (Kp.blk hs (by simp) h3).cell rfl) rfl rfl rfl rfl ?_)
    (repeat refine q_load rfl (fun _ hs => (Kp.blk hs (by simp) hH).cell rfl) rfl rfl rfl rfl ?_)
    (repeat first|refine yo rfl rfl trivial ?_|refine q_load rfl (fun _ hs => (Kp.blk hs (by simp) h4).cell rfl) rfl rfl rfl rfl ?_)
    refine q_load (v := S name) rfl (fun _ hs => (Kp.blk hs (by simp) hB).cell rfl) rfl rfl rfl rfl ?_
    refine q_lookT (I (sg f name)) rfl rfl (fun w' hw => h.map.kp hw (by simp)) (by unfold sg; cases f name <;> rfl) rfl rfl rfl rfl rfl rfl ?_
    (repeat first|refine yo rfl rfl trivial ?_|refine yn ?_)
    intro w' hs
    exact ⟨(), rfl, hs⟩
  rintro _ e2 w2 k2
  (repeat refine zr ?_)
  exact ⟨_, rfl, rfl, hs, h.kp0 k2, k2.mono (by simp)⟩
theorem work3_ok {w0 : World} {b5 : Nat} {a0 : Ans} (hK : KBox g w0 b5 [a0]) (hW : Kp g.F w0 W) (h : MAt W g f s) (hs : s ≤ g.fuel) : RetP Tryz.prog 166 [ptr b5] W (AskR g (IntKind.i64.wrap (0 - (a0 (sg f)).1), (a0 (sg f)).2) W f s) (AskE g (IntKind.i64.wrap (0 - (a0 (sg f)).1), (a0 (sg f)).2) W s) := by
  obtain ⟨b0, off, kcap, fn, first, caps, hbc, _, hA⟩ := kbox_kid hK (i := 0) rfl
  obtain ⟨hbx, hc0⟩ := hbc W hW
  refine enterP Tryz.call166 Tryz.func166 rfl rfl rfl rfl ?_
  (repeat first|refine zA ?_|refine zg ?_|refine zo rfl rfl trivial ?_|refine zn ?_)
  refine o_load rfl hbx rfl rfl rfl rfl rfl ?_
  refine zo rfl rfl (by simp only [AllP, List.length_cons, List.length_nil]; omega) ?_
  refine o_loadc (v := .func (.func fn) first caps) rfl hc0 rfl rfl rfl rfl ?_
  refine o_callvP (first := first) (cap := caps) (hA W f s hW h hs) rfl (by simp) rfl rfl (fun v w' hE => askE_of (Kp.refl _ _) hE (c := 0) rfl (by simp)) ?_
  rintro v w1 ⟨rfl, g1, g2, g3⟩
  refine o_negW rfl rfl rfl ?_
  (repeat first|refine zo rfl rfl trivial ?_|refine zn ?_|refine zr ?_)
  exact ⟨_, rfl, rfl, g1, g2, g3⟩
theorem work4_ok {w0 : World} {b5 : Nat} {a0 : Ans} (hK : KBox g w0 b5 [a0]) (hW : Kp g.F w0 W) (h : MAt W g f s) (hs : s ≤ g.fuel) : RetP Tryz.prog 167 [ptr b5] W (AskR g (IntKind.i64.wrap (1 - (a0 (sg f)).1), (a0 (sg f)).2) W f s) (AskE g (IntKind.i64.wrap (1 - (a0 (sg f)).1), (a0 (sg f)).2) W s) := by
  obtain ⟨b0, off, kcap, fn, first, caps, hbc, _, hA⟩ := kbox_kid hK (i := 0) rfl
  obtain ⟨hbx, hc0⟩ := hbc W hW
  refine enterP Tryz.call167 Tryz.func167 rfl rfl rfl rfl ?_
  (repeat first|refine zA ?_|refine zg ?_|refine zo rfl rfl trivial ?_|refine zn ?_)
  refine o_load rfl hbx rfl rfl rfl rfl rfl ?_
  refine zo rfl rfl (by simp only [AllP, List.length_cons, List.length_nil]; omega) ?_
  refine o_loadc (v := .func (.func fn) first caps) rfl hc0 rfl rfl rfl rfl ?_
  refine o_callvP (first := first) (cap := caps) (hA W f s hW h hs) rfl (by simp) rfl rfl (fun v w' hE => askE_of (Kp.refl _ _) hE (c := 0) rfl (by simp)) ?_
  rintro v w1 ⟨rfl, g1, g2, g3⟩
  refine o_subW rfl rfl rfl rfl ?_
  (repeat first|refine zo rfl rfl trivial ?_|refine zn ?_|refine zr ?_)
  exact ⟨_, rfl, rfl, g1, g2, g3⟩
theorem work5_ok {w0 : World} {b5 : Nat} {a0 a1 : Ans} (hK : KBox g w0 b5 [a0, a1]) (hW : Kp g.F w0 W) (h : MAt W g f s) (hs : s ≤ g.fuel) : RetP Tryz.prog 168 [ptr b5] W (AskR g (if (a0 (sg f)).1 = 1 then (trI (decide ((a1 (sg f)).1 = 1)), (a0 (sg f)).2 + (a1 (sg f)).2) else (0, (a0 (sg f)).2)) W f s) (AskE g (if (a0 (sg f)).1 = 1 then (trI (decide ((a1 (sg f)).1 = 1)), (a0 (sg f)).2 + (a1 (sg f)).2) else (0, (a0 (sg f)).2)) W s) := by
  obtain ⟨b0, off, kcap, fn, first, caps, hbc, _, hA⟩ := kbox_kid hK (i := 0) rfl
  obtain ⟨hbx, hc0⟩ := hbc W hW
  refine enterP Tryz.call168 Tryz.func168 rfl rfl rfl rfl ?_
  (repeat first|refine zA ?_|refine zg ?_|refine zo rfl rfl trivial ?_|refine zn ?_)
  refine o_load rfl hbx rfl rfl rfl rfl rfl ?_
  refine zo rfl rfl (by simp only [AllP, List.length_cons, List.length_nil]; omega) ?_
  refine o_loadc (v := .func (.func fn) first caps) rfl hc0 rfl rfl rfl rfl ?_
  refine o_callvP (first := first) (cap := caps) (hA W f s hW h hs) rfl (by simp) rfl rfl (fun v w' hE => askE_of (Kp.refl _ _) hE (c := 0) rfl (by split <;> simp)) ?_
  rintro v w1 ⟨rfl, g1, g2, g3⟩
  (repeat refine zo rfl rfl trivial ?_)
  refine o_split _ _ rfl rfl rfl (fun hx => ?_) (fun hx => ?_)
  · have hx : (a0 (sg f)).1 = 1 := of_decide_eq_true hx
    obtain ⟨b0', off', kcap', fn', first', caps', hbc', _, hA'⟩ := kbox_kid hK (i := 1) rfl
    obtain ⟨hbx', hc0'⟩ := hbc' _ (hW.trans g3)
    refine o_load rfl hbx' rfl rfl rfl rfl rfl ?_
    refine zo rfl rfl (by simp only [AllP, List.length_cons, List.length_nil]; omega) ?_
    refine o_loadc (v := .func (.func fn') first' caps') rfl hc0' rfl rfl rfl rfl ?_
    refine o_callvP (first := first') (cap := caps') (hA' w1 f (s + (a0 (sg f)).2) (hW.trans g3) g2 g1) rfl (by simp) rfl rfl (fun v w' hE => askE_of g3 hE (c := (a0 (sg f)).2) rfl (by simp [hx])) ?_
    rintro v w2 ⟨rfl, j1, j2, j3⟩
    (repeat refine zo rfl rfl trivial ?_)
    refine o_call (truth_ret _) rfl rfl rfl ?_
    rintro v w3 ⟨rfl, rfl⟩
    (repeat first|refine zo rfl rfl trivial ?_|refine zn ?_|refine zr ?_)
    refine ⟨_, rfl, ?_⟩
    simp only [hx, if_true, if_false]
    exact ⟨rfl, by dsimp only; omega, by dsimp only; rw [← Nat.add_assoc]; exact j2, g3.trans j3⟩
  · have hx : ¬ (a0 (sg f)).1 = 1 := of_decide_eq_false hx
    (repeat refine zo rfl rfl trivial ?_)
    refine o_call (truth_ret _) rfl rfl rfl ?_
    rintro v w3 ⟨rfl, rfl⟩
    (repeat first|refine zo rfl rfl trivial ?_|refine zn ?_|refine zr ?_)
    refine ⟨_, rfl, ?_⟩
    simp only [hx, if_true, if_false]
    exact ⟨rfl, g1, g2, g3⟩
theorem work6_ok {w0 : World} {b5 : Nat} {a0 a1 : Ans} (hK : KBox g w0 b5 [a0, a1]) (hW : Kp g.F w0 W) (h : MAt W g f s) (hs : s ≤ g.fuel) : RetP Tryz.prog 170 [ptr b5] W (AskR g (if (a0 (sg f)).1 = 1 then (1, (a0 (sg f)).2) else (trI (decide ((a1 (sg f)).1 = 1)), (a0 (sg f)).2 + (a1 (sg f)).2)) W f s) (AskE g (if (a0 (sg f)).1 = 1 then (1, (a0 (sg f)).2) else (trI (decide ((a1 (sg f)).1 = 1)), (a0 (sg f)).2 + (a1 (sg f)).2)) W s) := by
  obtain ⟨b0, off, kcap, fn, first, caps, hbc, _, hA⟩ := kbox_kid hK (i := 0) rfl
  obtain ⟨hbx, hc0⟩ := hbc W hW
  refine enterP Tryz.call170 Tryz.func170 rfl rfl rfl rfl ?_
  (repeat first|refine zA ?_|refine zg ?_|refine zo rfl rfl trivial ?_|refine zn ?_)
  refine o_load rfl hbx rfl rfl rfl rfl rfl ?_
  refine zo rfl rfl (by simp only [AllP, List.length_cons, List.length_nil]; omega) ?_
  refine o_loadc (v := .func (.func fn) first caps) rfl hc0 rfl rfl rfl rfl ?_
  refine o_callvP (first := first) (cap := caps) (hA W f s hW h hs) rfl (by simp) rfl rfl (fun v w' hE => askE_of (Kp.refl _ _) hE (c := 0) rfl (by split <;> simp)) ?_
  rintro v w1 ⟨rfl, g1, g2, g3⟩
  (repeat refine zo rfl rfl trivial ?_)
  refine o_split _ _ rfl rfl rfl (fun hx => ?_) (fun hx => ?_)
  · have hx : (a0 (sg f)).1 = 1 := of_decide_eq_true hx
    (repeat refine zo rfl rfl trivial ?_)
    refine o_call (truth_ret _) rfl rfl rfl ?_
    rintro v w3 ⟨rfl, rfl⟩
    (repeat first|refine zo rfl rfl trivial ?_|refine zn ?_|refine zr ?_)
    refine ⟨_, rfl, ?_⟩
    simp only [hx, if_true, if_false]
    exact ⟨rfl, g1, g2, g3⟩
  · have hx : ¬ (a0 (sg f)).1 = 1 := of_decide_eq_false hx
    obtain ⟨b0', off', kcap', fn', first', caps', hbc', _, hA'⟩ := kbox_kid hK (i := 1) rfl
    obtain ⟨hbx', hc0'⟩ := hbc' _ (hW.trans g3)
    refine o_load rfl hbx' rfl rfl rfl rfl rfl ?_
    refine zo rfl rfl (by simp only [AllP, List.length_cons, List.length_nil]; omega) ?_
    refine o_loadc (v := .func (.func fn') first' caps') rfl hc0' rfl rfl rfl rfl ?_
    refine o_callvP (first := first') (cap := caps') (hA' w1 f (s + (a0 (sg f)).2) (hW.trans g3) g2 g1) rfl (by simp) rfl rfl (fun v w' hE => askE_of g3 hE (c := (a0 (sg f)).2) rfl (by simp [hx])) ?_
    rintro v w2 ⟨rfl, j1, j2, j3⟩
    (repeat refine zo rfl rfl trivial ?_)
    refine o_call (truth_ret _) rfl rfl rfl ?_
    rintro v w3 ⟨rfl, rfl⟩
    (repeat first|refine zo rfl rfl trivial ?_|refine zn ?_|refine zr ?_)
    refine ⟨_, rfl, ?_⟩
    simp only [hx, if_true, if_false]
    exact ⟨rfl, by dsimp only; omega, by dsimp only; rw [← Nat.add_assoc]; exact j2, g3.trans j3⟩
theorem work8_ok {w0 : World} {b5 b3 b7 : Nat} {op : Int} {a0 a1 : Ans} (hK : KBox g w0 b5 [a0, a1]) (hW : Kp g.F w0 W) (h : MAt W g f s) (hs : s ≤ g.fuel) (h3 : Blk w0 b3 [ptr g.p] 111) (h3o : b3 ∉ g.F) (h7 : Blk w0 b7 [I op] 51) (h7o : b7 ∉ g.F) :
    RetP Tryz.prog 173 [ptr b5, ptr b3, ptr b7] W (AskR g (pairV (qwO g.E g.R) op (a0 (sg f)).1 (a1 (sg f)).1, (a0 (sg f)).2 + (a1 (sg f)).2) W f s) (AskE g (pairV (qwO g.E g.R) op (a0 (sg f)).1 (a1 (sg f)).1, (a0 (sg f)).2 + (a1 (sg f)).2) W s) := by
  obtain ⟨b0, off, kcap, fn, first, caps, hbc, _, hA⟩ := kbox_kid hK (i := 0) rfl
  obtain ⟨hbx, hc0⟩ := hbc W hW
  refine enterP Tryz.call173 Tryz.func173 rfl rfl rfl rfl ?_
  (repeat first|refine zA ?_|refine zg ?_|refine zo rfl rfl trivial ?_|refine zn ?_)
  refine o_load rfl hbx rfl rfl rfl rfl rfl ?_
  refine zo rfl rfl (by simp only [AllP, List.length_cons, List.length_nil]; omega) ?_
  refine o_loadc (v := .func (.func fn) first caps) rfl hc0 rfl rfl rfl rfl ?_
  refine o_callvP (first := first) (cap := caps) (hA W f s hW h hs) rfl (by simp) rfl rfl (fun v w' hE => askE_of (Kp.refl _ _) hE (c := 0) rfl (by simp)) ?_
  rintro v w1 ⟨rfl, g1, g2, g3⟩
  obtain ⟨b0', off', kcap', fn', first', caps', hbc', _, hA'⟩ := kbox_kid hK (i := 1) rfl
  obtain ⟨hbx', hc0'⟩ := hbc' _ (hW.trans g3)
  (repeat first|refine zA ?_|refine zg ?_|refine zo rfl rfl trivial ?_|refine zn ?_)
  refine o_load rfl hbx' rfl rfl rfl rfl rfl ?_
  refine zo rfl rfl (by simp only [AllP, List.length_cons, List.length_nil]; omega) ?_
  refine o_loadc (v := .func (.func fn') first' caps') rfl hc0' rfl rfl rfl rfl ?_
  refine o_callvP (first := first') (cap := caps') (hA' w1 f (s + (a0 (sg f)).2) (hW.trans g3) g2 g1) rfl (by simp) rfl rfl (fun v w' hE => askE_of g3 hE (c := (a0 (sg f)).2) rfl (by simp)) ?_
  rintro v w2 ⟨rfl, j1, j2, j3⟩
  have k2 := (hW.trans g3).trans j3
  (repeat first|refine zA ?_|refine zg ?_|refine zo rfl rfl trivial ?_|refine zn ?_)
  refine o_load rfl (k2.blk h3o h3) rfl rfl rfl rfl rfl ?_
  refine o_load rfl (k2.blk h7o h7) rfl rfl rfl rfl rfl ?_
  (repeat refine zo rfl rfl trivial ?_)
  refine o_call (pair_ret j2 op (a0 (sg f)).1 (a1 (sg f)).1) rfl rfl rfl ?_
  rintro v w3 ⟨rfl, k3⟩
  (repeat first|refine zo rfl rfl trivial ?_|refine zn ?_|refine zr ?_)
  exact ⟨_, rfl, rfl, by dsimp only; omega, by dsimp only; rw [← Nat.add_assoc]; exact j2.kp0 k3, (g3.trans j3).trans (k3.mono (by simp))⟩
set_option maxHeartbeats 3200000 in
theorem work7_ok {w0 : World} {b5 b3 b7 : Nat} {op : Int} {a0 : Ans} (hK : KBox g w0 b5 [a0]) (hW : Kp g.F w0 W) (h : MAt W g f s) (hs : s ≤ g.fuel) (h3 : Blk w0 b3 [ptr g.p] 111) (h3o : b3 ∉ g.F) (h7 : Blk w0 b7 [I op] 51) (h7o : b7 ∉ g.F) :
    RetP Tryz.prog 171 [ptr b3, ptr b7, ptr b5] W (AskR g (partQ g.E op (a0 (sg f)).1, (a0 (sg f)).2) W f s) (AskE g (partQ g.E op (a0 (sg f)).1, (a0 (sg f)).2) W s) := by
  obtain ⟨b0, off, kcap, fn, first, caps, hbc, _, hA⟩ := kbox_kid hK (i := 0) rfl
  obtain ⟨hbx, hc0⟩ := hbc W hW
  refine enterP Tryz.call171 Tryz.func171 rfl rfl rfl rfl ?_
  (repeat first|refine zA ?_|refine zg ?_|refine zo rfl rfl trivial ?_|refine zn ?_)
  refine r_seq ?_
  refine r_cut (α := Unit) [3] (fun _ => [I (partQ g.E op (a0 (sg f)).1)]) (fun _ W' => s + (a0 (sg f)).2 ≤ g.fuel ∧ MAt W' g f (s + (a0 (sg f)).2) ∧ Kp g.F W W') ?_ ?_
  · refine r_mix (fun w' => Kp g.F W w') [(0, false), (1, false), (2, false), (3, false), (4, false), (5, true), (6, true), (7, false)] follows_mixed (by kernel_rfl) (by kernel_rfl) (by kernel_rfl) ((Sm.drew W).kp _) ?_
    have sd := Sm.drew W
    generalize ({ W with drawn := W.drawn + 1 } : World) = wd at sd ⊢
    have kd : Kp g.F W wd := sd.kp _
    have hMd := h.kp0 (sd.kp [])
    refine x_load rfl rfl (fun w' h' => ((hW.trans h').blk h3o h3).cell rfl) rfl rfl rfl rfl ?_
    refine x_load rfl rfl (fun w' h' => ((hW.trans h').blk h7o h7).cell rfl) rfl rfl rfl rfl ?_
    refine x_load rfl rfl (fun w' h' => (hbc w' (hW.trans h')).1.cell rfl) rfl rfl rfl rfl ?_
    refine xo rfl rfl (by simp only [AllP, List.length_cons, List.length_nil]; omega) ?_
    refine x_load (v := .func (.func fn) first caps) rfl rfl (fun w' h' => (hbc w' (hW.trans h')).2) rfl rfl rfl rfl ?_
    refine x_act rfl ?_
    refine o_callvP (first := first) (cap := caps) (hA wd f s (hW.trans kd) hMd hs) rfl (by simp) rfl rfl (fun v w' hE => askE_of kd hE (c := 0) rfl (by simp)) ?_
    rintro v w1 ⟨rfl, g1, g2, g3⟩
    refine o_nil ⟨.inr (kd.trans g3), ?_⟩
    refine x_act rfl ?_
    refine o_call (part_ret g2 op (a0 (sg f)).1) rfl rfl rfl ?_
    rintro v w2 ⟨rfl, k2⟩
    refine o_nil ⟨.inr ((kd.trans g3).trans (k2.mono (by simp))), ?_⟩
    (repeat first|refine xo rfl rfl trivial ?_|refine xn ?_)
    exact ⟨(), rfl, g1, g2.kp0 k2, (kd.trans g3).trans (k2.mono (by simp))⟩
  rintro _ e3 w3 ⟨g1, g2, g3⟩
  (repeat refine zr ?_)
  exact ⟨_, rfl, rfl, g1, g2, g3⟩
end Go.Vc
