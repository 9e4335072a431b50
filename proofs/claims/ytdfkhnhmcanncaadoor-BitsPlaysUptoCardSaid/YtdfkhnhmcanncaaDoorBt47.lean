/- bits: New and Of, there or not, in one form. -/
import Derived.Test.YtdfkhnhmcanncaaDoorBt45
namespace Go.Vc
open Go Go.Proofs
set_option maxRecDepth 10000
variable {w : World}
abbrev Q3 := Option (Nat × Option Addr × Nat)
abbrev qv (q : Q3) : Value := .pointer (q.map fun y => ⟨y.1, 0, none⟩)
theorem NewQ (hT : TabW w) {ad : Option Addr} {l : List Int} {n cap : Nat} (hr : ReadS w ad (l.map I)) (hn : l.length = n) (hl : n ≤ 1048576) :
    Ret Tryd.prog 12 [.slice ad n cap] w (fun v w' => ∃ (q : Q3) (e : Int), v = .tuple #[qv q, I e] ∧ (e = if q.isSome then 0 else 2) ∧ q.isSome = allOk l ∧ Kp [] w w' ∧ ∀ y, q = some y → NewSet w y.1 w' (newW l []) y.2.1 y.2.2) := by
  subst hn
  refine (New_ret hT hr (by omega)).mono fun v w' h => ?_
  rcases h with ⟨h1, p, ad', cap', h2, h3⟩ | ⟨h1, h2, h3⟩
  · exact ⟨some (p, ad', cap'), 0, h2, rfl, h1.symm, h3.kp, fun y hy => by cases hy; exact h3⟩
  · exact ⟨none, 2, h2, rfl, h1.symm, h3, fun y hy => by cases hy⟩
theorem refNewQ (hT : TabW w) {ad : Option Addr} {l : List Int} {n cap : Nat} (hr : ReadS w ad (l.map I)) (hn : l.length = n) (hl : n ≤ 1048576) :
    Ret Tryd.prog 79 [.slice ad n cap] w (fun v w' => ∃ (q : Q3) (e : Int), v = .tuple #[qv q, I e] ∧ (e = if q.isSome then 0 else 2) ∧ q.isSome = allOk l ∧ Kp [] w w' ∧ ∀ y, q = some y → NewRef w y.1 w' (elems (newW l [])) y.2.1 y.2.2) := by
  subst hn
  refine (refNew_ret hT hr hl).mono fun v w' h => ?_
  rcases h with ⟨h1, p, ad', cap', h2, h3⟩ | ⟨h1, h2, h3⟩
  · exact ⟨some (p, ad', cap'), 0, h2, rfl, h1.symm, h3.kp, fun y hy => by cases hy; exact h3⟩
  · exact ⟨none, 2, h2, rfl, h1.symm, h3, fun y hy => by cases hy⟩
theorem OfQ (hT : TabW w) {ad : Option Addr} {ws : List Nat} {n cap : Nat} (hr : ReadS w ad (ws.map U)) (hok : WOk ws) (hn : ws.length = n) (hl : n ≤ 1048576) :
    Ret Tryd.prog 20 [.slice ad n cap] w (fun v w' => ∃ (q : Q3) (e : Int), v = .tuple #[qv q, I e] ∧ (e = if q.isSome then 0 else 2) ∧ (q.isSome = true ↔ ¬ Big ws) ∧ Kp [] w w' ∧ ∀ y, q = some y → NewSet w y.1 w' (trim ws) y.2.1 y.2.2) := by
  subst hn
  refine (Of_ret hT ⟨hr, hok, by omega⟩ hl).mono fun v w' h => ?_
  rcases h with ⟨h1, p, ad', cap', h2, h3⟩ | ⟨h1, h2, h3⟩
  · exact ⟨some (p, ad', cap'), 0, h2, rfl, by simp [h1], h3.kp, fun y hy => by cases hy; exact h3⟩
  · exact ⟨none, 2, h2, rfl, by simp [h1], h3, fun y hy => by cases hy⟩
theorem refOfQ (hT : TabW w) {ad : Option Addr} {ws : List Nat} {n cap : Nat} (hr : ReadS w ad (ws.map U)) (hok : WOk ws) (hn : ws.length = n) (hl : n ≤ 1048576) :
    Ret Tryd.prog 21 [.slice ad n cap] w (fun v w' => ∃ (q : Q3) (e : Int), v = .tuple #[qv q, I e] ∧ (e = if q.isSome then 0 else 2) ∧ (q.isSome = true ↔ ¬ Big ws) ∧ Kp [] w w' ∧ ∀ y, q = some y → NewRef w y.1 w' (elems ws) y.2.1 y.2.2) := by
  subst hn
  refine (refOf_ret hT ⟨hr, hok, by omega⟩ hl).mono fun v w' h => ?_
  rcases h with ⟨h1, p, ad', cap', h2, h3⟩ | ⟨h1, h2, h3⟩
  · exact ⟨some (p, ad', cap'), 0, h2, rfl, by simp [h1], h3.kp, fun y hy => by cases hy; exact h3⟩
  · exact ⟨none, 2, h2, rfl, by simp [h1], h3, fun y hy => by cases hy⟩
end Go.Vc
/- bits: BitsPlays: a step. -/
namespace Go.Vc
open Go Go.Proofs
set_option maxRecDepth 10000
variable {w : World}
theorem q_of {P : Program} {f : FuncId} {vs : List Value} {v : Value} (h : ∀ w1, Sm w w1 → Ret P f vs w1 (fun v' w' => v' = v ∧ w' = w1)) : ∀ w1, Sm w w1 → Ret P f vs w1 (fun v' w' => v' = v ∧ Sm w w') :=
  fun w1 hs => (h w1 hs).mono fun v' w' ⟨h1, h2⟩ => ⟨h1, by rw [h2]; exact hs⟩
theorem nextL_tuple (l : List Nat) (n : Int) : ∃ a b, nextL l n = .tuple #[I a, .bool b] := by
  unfold nextL
  cases l.find? (fun (x : Nat) => decide (n ≤ (x : Int))) with
  | none => exact ⟨_, _, rfl⟩
  | some x => exact ⟨_, _, rfl⟩
section
variable {w0 : World} {W : Nat} {sl : Nat → Option Sl} {g : BGh}
theorem PX.lay {w5 w6 w7 w9 w10 w11 : World} {q q' : Q3} {ws : List Nat} {S : List Nat} {on : Nat} (hon : on < 4) (g5 : PX w0 w5 W sl g) (hqq : q.isSome = q'.isSome) (htr : q.isSome = true → Tr ws) (k6 : Kp [] w5 w6) (hn6 : ∀ y, q = some y → NewSet w5 y.1 w6 ws y.2.1 y.2.2) (k7 : Kp [] w6 w7)
    (hn7 : ∀ y, q' = some y → NewRef w6 y.1 w7 (elems ws) y.2.1 y.2.2) (k9 : Kp S w7 w9) (hS : ∀ b, b ∈ S → b < w5.heap.size) (g9 : PX w0 w9 W sl g)
    (hu10 : Upd w9 W (.cells ⟨(rowL 15 (wf sl g.ad g.cp g.row)).set on (qv q)⟩ 90 (0, 0)) w10) (hu11 : Upd w10 W (.cells ⟨((rowL 15 (wf sl g.ad g.cp g.row)).set on (qv q)).set (4 + on) (qv q')⟩ 90 (0, 0)) w11) : After w0 W g w11 := by
  have kW : Kp [W] w9 w11 := (hu10.kp [W] (.inl (by simp))).trans (hu11.kp [W] (.inl (by simp)))
  have z6 := k6.size
  have z7 := k7.size
  have hWlt : W < w5.heap.size := g5.pi.dj.lt 11 W (by rw [dd_W]; simp)
  cases q with
  | none =>
    cases q' with
    | some y' => cases hqq
    | none => exact (g9.place (s' := none) hon SlAt.none (by simp [slb]) kW hu11.blk).after
  | some y =>
    cases q' with
    | none => cases hqq
    | some y' =>
      have h6 := hn6 y rfl
      have h7 := hn7 y' rfl
      have z0 := g5.pi.kp.size
      have hs' : SlAt w11 (some ⟨y.1, ws, y.2.1, y.2.2, y'.1, y'.2.1, y'.2.2⟩) := by
        intro s1 hs1
        cases hs1
        refine ⟨((h6.at_.kp k7 (by simp)).kp k9 (fun b hb hb2 => ?_)).kp kW (fun b hb hb2 => ?_), htr rfl, (h7.at_.kp k9 (fun b hb hb2 => ?_)).kp kW (fun b hb hb2 => ?_), fun b hb hb2 => ?_⟩
        · have := h6.new b hb; have := hS b hb2; omega
        · have := h6.new b hb; simp at hb2; omega
        · have := h7.new b hb; have := hS b hb2; omega
        · have := h7.new b hb; simp at hb2; omega
        · have := h6.at_.lt b hb; have := h7.new b hb2; omega
      refine (g9.place hon hs' (fun b hb => ?_) kW hu11.blk).after
      rcases List.mem_append.1 hb with hb | hb
      · have := h6.new b hb; exact ⟨by omega, g5.pi.away this⟩
      · have := h7.new b hb; exact ⟨by omega, g5.pi.away (by omega)⟩
set_option maxHeartbeats 6400000 in
theorem step_ret (hg : PX w0 w W sl g) {x : Opg} (hx : OpOk w x) (hc1 : g.ents.length ≤ 1073741820) (hc2 : g.sqs.length ≤ 1073741820) :
    Ret Tryd.prog 54 [ptr W, .agg ⟨opC x⟩] w (fun v w' => v = .bool true ∧ After w0 W g w') := by
  refine enter Tryd.call54 Tryd.func54 rfl rfl rfl rfl ?_
  (repeat first|refine zA ?_|refine zB ?_|refine zC ?_|refine zD ?_|refine zE ?_|refine zg ?_|refine zo rfl rfl (by first|exact trivial|(simp only[AllP];omega)|(simp(discharger:=omega)only[AllP,cA,cB];omega)|(simp only[AllP,cC,cD,cE,cF,cG];omega)) ?_|refine zn ?_|refine zb ?_|refine ze rfl ?_|refine zr ?_|refine zk ?_|refine zT rfl rfl rfl ?_|refine zU rfl rfl rfl ?_|refine zV rfl rfl rfl ?_|refine zf rfl ?_|refine zt rfl ?_)
  refine o_box rfl rfl rfl ?_
  intro bx w1 hbx hu1
  have hB1 : Blk w1 bx (opC x) 93 := hu1.blk
  have k1 : Kp [] w w1 := hu1.kp [] (.inr (by omega))
  have hg1 := hg.kp0 k1
  have hx1 := hx.kp k1
  (repeat first|refine zA ?_|refine zB ?_|refine zC ?_|refine zD ?_|refine zE ?_|refine zg ?_|refine zo rfl rfl (by first|exact trivial|(simp only[AllP];omega)|(simp(discharger:=omega)only[AllP,cA,cB];omega)|(simp only[AllP,cC,cD,cE,cF,cG];omega)) ?_|refine zn ?_|refine zb ?_|refine ze rfl ?_|refine zr ?_|refine zk ?_|refine zT rfl rfl rfl ?_|refine zU rfl rfl rfl ?_|refine zV rfl rfl rfl ?_|refine zf rfl ?_|refine zt rfl ?_)
  refine o_load rfl hB1 rfl rfl rfl rfl rfl ?_
  (repeat first|refine zA ?_|refine zB ?_|refine zC ?_|refine zD ?_|refine zE ?_|refine zg ?_|refine zo rfl rfl (by first|exact trivial|(simp only[AllP];omega)|(simp(discharger:=omega)only[AllP,cA,cB];omega)|(simp only[AllP,cC,cD,cE,cF,cG];omega)) ?_|refine zn ?_|refine zb ?_|refine ze rfl ?_|refine zr ?_|refine zk ?_|refine zT rfl rfl rfl ?_|refine zU rfl rfl rfl ?_|refine zV rfl rfl rfl ?_|refine zf rfl ?_|refine zt rfl ?_)
  refine o_call (four_ret x.on) rfl rfl rfl ?_
  rintro v w2 ⟨rfl, rfl⟩
  have hon := (fourN_eq x.on).2
  generalize fourN x.on = on at hon ⊢
  (repeat first|refine zA ?_|refine zB ?_|refine zC ?_|refine zD ?_|refine zE ?_|refine zg ?_|refine zo rfl rfl (by first|exact trivial|(simp only[AllP];omega)|(simp(discharger:=omega)only[AllP,cA,cB];omega)|(simp only[AllP,cC,cD,cE,cF,cG];omega)) ?_|refine zn ?_|refine zb ?_|refine ze rfl ?_|refine zr ?_|refine zk ?_|refine zT rfl rfl rfl ?_|refine zU rfl rfl rfl ?_|refine zV rfl rfl rfl ?_|refine zf rfl ?_|refine zt rfl ?_)
  refine o_load (v := sv (sl on)) rfl hg1.pi.hdr (by simpa using hg1.svc hon) rfl rfl rfl rfl ?_
  (repeat first|refine zA ?_|refine zB ?_|refine zC ?_|refine zD ?_|refine zE ?_|refine zg ?_|refine zo rfl rfl (by first|exact trivial|(simp only[AllP];omega)|(simp(discharger:=omega)only[AllP,cA,cB];omega)|(simp only[AllP,cC,cD,cE,cF,cG];omega)) ?_|refine zn ?_|refine zb ?_|refine ze rfl ?_|refine zr ?_|refine zk ?_|refine zT rfl rfl rfl ?_|refine zU rfl rfl rfl ?_|refine zV rfl rfl rfl ?_|refine zf rfl ?_|refine zt rfl ?_)
  refine o_load (v := rv (sl on)) rfl hg1.pi.hdr (by simpa using hg1.rvc hon) rfl rfl rfl rfl ?_
  (repeat first|refine zA ?_|refine zB ?_|refine zC ?_|refine zD ?_|refine zE ?_|refine zg ?_|refine zo rfl rfl (by first|exact trivial|(simp only[AllP];omega)|(simp(discharger:=omega)only[AllP,cA,cB];omega)|(simp only[AllP,cC,cD,cE,cF,cG];omega)) ?_|refine zn ?_|refine zb ?_|refine ze rfl ?_|refine zr ?_|refine zk ?_|refine zT rfl rfl rfl ?_|refine zU rfl rfl rfl ?_|refine zV rfl rfl rfl ?_|refine zf rfl ?_|refine zt rfl ?_)
  refine o_load rfl hB1 rfl rfl rfl rfl rfl ?_
  (repeat first|refine zA ?_|refine zB ?_|refine zC ?_|refine zD ?_|refine zE ?_|refine zg ?_|refine zo rfl rfl (by first|exact trivial|(simp only[AllP];omega)|(simp(discharger:=omega)only[AllP,cA,cB];omega)|(simp only[AllP,cC,cD,cE,cF,cG];omega)) ?_|refine zn ?_|refine zb ?_|refine ze rfl ?_|refine zr ?_|refine zk ?_|refine zT rfl rfl rfl ?_|refine zU rfl rfl rfl ?_|refine zV rfl rfl rfl ?_|refine zf rfl ?_|refine zt rfl ?_)
  refine r_if (p := x.d = 0) rfl (fun hd0 => ?_) (fun hd0 => ?_)
  · (repeat first|refine zA ?_|refine zB ?_|refine zC ?_|refine zD ?_|refine zE ?_|refine zg ?_|refine zo rfl rfl (by first|exact trivial|(simp only[AllP];omega)|(simp(discharger:=omega)only[AllP,cA,cB];omega)|(simp only[AllP,cC,cD,cE,cF,cG];omega)) ?_|refine zn ?_|refine zb ?_|refine ze rfl ?_|refine zr ?_|refine zk ?_|refine zT rfl rfl rfl ?_|refine zU rfl rfl rfl ?_|refine zV rfl rfl rfl ?_|refine zf rfl ?_|refine zt rfl ?_)
    have hnl := hx1.nl
    refine o_load rfl hB1 rfl rfl rfl rfl rfl ?_
    refine o_appendNil (x.ns.map I) rfl rfl hx1.ns rfl rfl rfl (by simp) (by simp [Value.oneCell']) (by simp only [maxLen]; omega) (by omega) rfl rfl ?_
    intro a3 c3 w3 n3
    refine o_buildSlice [I (-9)] rfl (by simp [Value.oneCell']) rfl (by decide) (by decide) rfl rfl rfl rfl rfl ?_
    intro b4 w4 hb4 hu4
    have k34 := hu4.kp [] (.inr (by omega))
    refine o_append1 rfl rfl (n3.own.kp k34 (by simp)) hu4.blk rfl rfl rfl rfl (by simp only [maxLen]; omega) (by omega) rfl rfl ?_
    intro al cl w5 ho5 k5 hnew5
    have n5 := n3.push k34 ho5 k5 hnew5
    have g5 := hg1.kp0 n5.kp
    have hB5 := n5.kp.blk (by simp) hB1
    have hcap := n5.own.le_cap
    (repeat first|refine zA ?_|refine zB ?_|refine zC ?_|refine zD ?_|refine zE ?_|refine zg ?_|refine zo rfl rfl (by first|exact trivial|(simp only[AllP];omega)|(simp(discharger:=omega)only[AllP,cA,cB];omega)|(simp only[AllP,cC,cD,cE,cF,cG];omega)) ?_|refine zn ?_|refine zb ?_|refine ze rfl ?_|refine zr ?_|refine zk ?_|refine zT rfl rfl rfl ?_|refine zU rfl rfl rfl ?_|refine zV rfl rfl rfl ?_|refine zf rfl ?_|refine zt rfl ?_)
    refine o_load rfl hB5 rfl rfl rfl rfl rfl ?_
    (repeat first|refine zA ?_|refine zB ?_|refine zC ?_|refine zD ?_|refine zE ?_|refine zg ?_|refine zo rfl rfl (by first|exact trivial|(simp only[AllP];omega)|(simp(discharger:=omega)only[AllP,cA,cB];omega)|(simp only[AllP,cC,cD,cE,cF,cG];omega)) ?_|refine zn ?_|refine zb ?_|refine ze rfl ?_|refine zr ?_|refine zk ?_|refine zT rfl rfl rfl ?_|refine zU rfl rfl rfl ?_|refine zV rfl rfl rfl ?_|refine zf rfl ?_|refine zt rfl ?_)
    have hr5 : ReadS w5 al (x.ns.map I) := by
      have := n5.read.take x.ns.length
      rwa [List.take_left' (by simp)] at this
    refine o_call (NewQ g5.pi.tab hr5 rfl (by omega)) rfl rfl rfl ?_
    rintro v w6 ⟨q, e1, rfl, he1, hq, k6, hn6⟩
    (repeat first|refine zA ?_|refine zB ?_|refine zC ?_|refine zD ?_|refine zE ?_|refine zg ?_|refine zo rfl rfl (by first|exact trivial|(simp only[AllP];omega)|(simp(discharger:=omega)only[AllP,cA,cB];omega)|(simp only[AllP,cC,cD,cE,cF,cG];omega)) ?_|refine zn ?_|refine zb ?_|refine ze rfl ?_|refine zr ?_|refine zk ?_|refine zT rfl rfl rfl ?_|refine zU rfl rfl rfl ?_|refine zV rfl rfl rfl ?_|refine zf rfl ?_|refine zt rfl ?_)
    have hB6 := k6.blk (by simp) hB5
    have g6 := g5.kp0 k6
    refine o_load rfl hB6 rfl rfl rfl rfl rfl ?_
    (repeat first|refine zA ?_|refine zB ?_|refine zC ?_|refine zD ?_|refine zE ?_|refine zg ?_|refine zo rfl rfl (by first|exact trivial|(simp only[AllP];omega)|(simp(discharger:=omega)only[AllP,cA,cB];omega)|(simp only[AllP,cC,cD,cE,cF,cG];omega)) ?_|refine zn ?_|refine zb ?_|refine ze rfl ?_|refine zr ?_|refine zk ?_|refine zT rfl rfl rfl ?_|refine zU rfl rfl rfl ?_|refine zV rfl rfl rfl ?_|refine zf rfl ?_|refine zt rfl ?_)
    refine o_call (refNewQ g6.pi.tab (hx1.ns.kp (n5.kp.trans k6) (by simp)) rfl (by omega)) rfl rfl rfl ?_
    rintro v w7 ⟨q', e2, rfl, he2, hq', k7, hn7⟩
    have g7 := g6.kp0 k7
    have hB7 := k7.blk (by simp) hB6
    have k57 := k6.trans k7
    have ho7 := n5.own.kp k57 (by simp)
    have hqq : q.isSome = q'.isSome := hq.trans hq'.symm
    have he : e1 = e2 := by rw [he1, he2, hqq]
    subst he
    obtain ⟨ba, oa, hae, hba, hca⟩ := ho7.read.at_ (by simp)
    subst hae
    have hlast := hca x.ns.length (I (-9)) (by simp)
    have hsx := hx1.ns.kp (n5.kp.trans k57) (by simp)
    (repeat first|refine zA ?_|refine zB ?_|refine zC ?_|refine zD ?_|refine zE ?_|refine zg ?_|refine zo rfl rfl (by first|exact trivial|(simp only[AllP];omega)|(simp(discharger:=omega)only[AllP,cA,cB];omega)|(simp only[AllP,cC,cD,cE,cF,cG];omega)) ?_|refine zn ?_|refine zb ?_|refine ze rfl ?_|refine zr ?_|refine zk ?_|refine zT rfl rfl rfl ?_|refine zU rfl rfl rfl ?_|refine zV rfl rfl rfl ?_|refine zf rfl ?_|refine zt rfl ?_)
    refine r_seq ?_
    refine r_cut (α := Unit) [0, 5, 8, 9, 11] (fun _ => [ptr W, I on, .slice (some ⟨ba, oa, none⟩) (x.ns.length + 1) cl, qv q, qv q']) (fun _ w' => Sm w7 w') ?_ ?_
    · refine r_seq ?_
      cases q with
      | none =>
       cases q' with
       | some y' => cases hqq
       | none =>
        refine r_quietS follows_mixed (by kernel_rfl) ?_
        (repeat first|refine yo rfl rfl (by first|exact trivial|(simp only[AllP];omega)|(simp(discharger:=omega)only[AllP,cA,cB];omega)|(simp only[AllP,cC,cD,cE,cF,cG];omega)) ?_|refine yn ?_|refine q_know _ _ (some true) rfl rfl rfl ?_|refine q_know _ _ (some false) rfl rfl rfl ?_|refine q_know _ _ none rfl rfl rfl ?_)
        refine q_call _ (q_of fun w1 hs => num_ret _) Tryd.call22 rfl rfl rfl ?_
        (repeat first|refine yo rfl rfl (by first|exact trivial|(simp only[AllP];omega)|(simp(discharger:=omega)only[AllP,cA,cB];omega)|(simp only[AllP,cC,cD,cE,cF,cG];omega)) ?_|refine yn ?_|refine q_know _ _ (some true) rfl rfl rfl ?_|refine q_know _ _ (some false) rfl rfl rfl ?_|refine q_know _ _ none rfl rfl rfl ?_)
        refine q_is false 4 false rfl rfl rfl (by simp) ?_
        (repeat first|refine yo rfl rfl (by first|exact trivial|(simp only[AllP];omega)|(simp(discharger:=omega)only[AllP,cA,cB];omega)|(simp only[AllP,cC,cD,cE,cF,cG];omega)) ?_|refine yn ?_|refine q_know _ _ (some true) rfl rfl rfl ?_|refine q_know _ _ (some false) rfl rfl rfl ?_|refine q_know _ _ none rfl rfl rfl ?_)
        refine q_load rfl (fun w hs => (hs.blk hB7).cell rfl) rfl rfl rfl rfl ?_
        (repeat first|refine yo rfl rfl (by first|exact trivial|(simp only[AllP];omega)|(simp(discharger:=omega)only[AllP,cA,cB];omega)|(simp only[AllP,cC,cD,cE,cF,cG];omega)) ?_|refine yn ?_|refine q_know _ _ (some true) rfl rfl rfl ?_|refine q_know _ _ (some false) rfl rfl rfl ?_|refine q_know _ _ none rfl rfl rfl ?_)
        refine q_load rfl (fun w hs => (hs.blk hB7).cell rfl) rfl rfl rfl rfl ?_
        (repeat first|refine yo rfl rfl (by first|exact trivial|(simp only[AllP];omega)|(simp(discharger:=omega)only[AllP,cA,cB];omega)|(simp only[AllP,cC,cD,cE,cF,cG];omega)) ?_|refine yn ?_|refine q_know _ _ (some true) rfl rfl rfl ?_|refine q_know _ _ (some false) rfl rfl rfl ?_|refine q_know _ _ none rfl rfl rfl ?_)
        refine q_call (.bool true) (fun w1 hs => (same_yes ((hr5.kp k57 (by simp)).kp (hs.kp []) (by simp)) (hsx.kp (hs.kp []) (by simp)) rfl rfl (by omega)).mono fun v w' ⟨h1, h2⟩ => ⟨h1, hs.trans h2⟩) Tryd.call19 rfl rfl rfl ?_
        (repeat first|refine yo rfl rfl (by first|exact trivial|(simp only[AllP];omega)|(simp(discharger:=omega)only[AllP,cA,cB];omega)|(simp only[AllP,cC,cD,cE,cF,cG];omega)) ?_|refine yn ?_|refine q_know _ _ (some true) rfl rfl rfl ?_|refine q_know _ _ (some false) rfl rfl rfl ?_|refine q_know _ _ none rfl rfl rfl ?_)
        refine q_load rfl (fun w hs => (hs.blk hB7).cell rfl) rfl rfl rfl rfl ?_
        (repeat first|refine yo rfl rfl (by first|exact trivial|(simp only[AllP];omega)|(simp(discharger:=omega)only[AllP,cA,cB];omega)|(simp only[AllP,cC,cD,cE,cF,cG];omega)) ?_|refine yn ?_|refine q_know _ _ (some true) rfl rfl rfl ?_|refine q_know _ _ (some false) rfl rfl rfl ?_|refine q_know _ _ none rfl rfl rfl ?_)
        refine q_load (v := I (-9)) rfl (fun w hs => by rw [← hlast]; exact World.cell?_of_block (by rw [hs.heap])) rfl rfl rfl rfl ?_
        (repeat first|refine yo rfl rfl (by first|exact trivial|(simp only[AllP];omega)|(simp(discharger:=omega)only[AllP,cA,cB];omega)|(simp only[AllP,cC,cD,cE,cF,cG];omega)) ?_|refine yn ?_|refine q_know _ _ (some true) rfl rfl rfl ?_|refine q_know _ _ (some false) rfl rfl rfl ?_|refine q_know _ _ none rfl rfl rfl ?_)
        intro w8 hs8
        refine r_no rfl (by simp) ?_
        (repeat first|refine zA ?_|refine zB ?_|refine zC ?_|refine zD ?_|refine zE ?_|refine zg ?_|refine zo rfl rfl (by first|exact trivial|(simp only[AllP];omega)|(simp(discharger:=omega)only[AllP,cA,cB];omega)|(simp only[AllP,cC,cD,cE,cF,cG];omega)) ?_|refine zn ?_|refine zb ?_|refine ze rfl ?_|refine zr ?_|refine zk ?_|refine zT rfl rfl rfl ?_|refine zU rfl rfl rfl ?_|refine zV rfl rfl rfl ?_|refine zf rfl ?_|refine zt rfl ?_)
        exact ⟨(), rfl, hs8⟩
      | some y =>
       cases q' with
       | none => cases hqq
       | some y' =>
        refine r_quietS follows_mixed (by kernel_rfl) ?_
        (repeat first|refine yo rfl rfl (by first|exact trivial|(simp only[AllP];omega)|(simp(discharger:=omega)only[AllP,cA,cB];omega)|(simp only[AllP,cC,cD,cE,cF,cG];omega)) ?_|refine yn ?_|refine q_know _ _ (some true) rfl rfl rfl ?_|refine q_know _ _ (some false) rfl rfl rfl ?_|refine q_know _ _ none rfl rfl rfl ?_)
        refine q_call _ (q_of fun w1 hs => num_ret _) Tryd.call22 rfl rfl rfl ?_
        (repeat first|refine yo rfl rfl (by first|exact trivial|(simp only[AllP];omega)|(simp(discharger:=omega)only[AllP,cA,cB];omega)|(simp only[AllP,cC,cD,cE,cF,cG];omega)) ?_|refine yn ?_|refine q_know _ _ (some true) rfl rfl rfl ?_|refine q_know _ _ (some false) rfl rfl rfl ?_|refine q_know _ _ none rfl rfl rfl ?_)
        refine q_is false 4 false rfl rfl rfl (by simp) ?_
        (repeat first|refine yo rfl rfl (by first|exact trivial|(simp only[AllP];omega)|(simp(discharger:=omega)only[AllP,cA,cB];omega)|(simp only[AllP,cC,cD,cE,cF,cG];omega)) ?_|refine yn ?_|refine q_know _ _ (some true) rfl rfl rfl ?_|refine q_know _ _ (some false) rfl rfl rfl ?_|refine q_know _ _ none rfl rfl rfl ?_)
        refine q_load rfl (fun w hs => (hs.blk hB7).cell rfl) rfl rfl rfl rfl ?_
        (repeat first|refine yo rfl rfl (by first|exact trivial|(simp only[AllP];omega)|(simp(discharger:=omega)only[AllP,cA,cB];omega)|(simp only[AllP,cC,cD,cE,cF,cG];omega)) ?_|refine yn ?_|refine q_know _ _ (some true) rfl rfl rfl ?_|refine q_know _ _ (some false) rfl rfl rfl ?_|refine q_know _ _ none rfl rfl rfl ?_)
        refine q_load rfl (fun w hs => (hs.blk hB7).cell rfl) rfl rfl rfl rfl ?_
        (repeat first|refine yo rfl rfl (by first|exact trivial|(simp only[AllP];omega)|(simp(discharger:=omega)only[AllP,cA,cB];omega)|(simp only[AllP,cC,cD,cE,cF,cG];omega)) ?_|refine yn ?_|refine q_know _ _ (some true) rfl rfl rfl ?_|refine q_know _ _ (some false) rfl rfl rfl ?_|refine q_know _ _ none rfl rfl rfl ?_)
        refine q_call (.bool true) (fun w1 hs => (same_yes ((hr5.kp k57 (by simp)).kp (hs.kp []) (by simp)) (hsx.kp (hs.kp []) (by simp)) rfl rfl (by omega)).mono fun v w' ⟨h1, h2⟩ => ⟨h1, hs.trans h2⟩) Tryd.call19 rfl rfl rfl ?_
        (repeat first|refine yo rfl rfl (by first|exact trivial|(simp only[AllP];omega)|(simp(discharger:=omega)only[AllP,cA,cB];omega)|(simp only[AllP,cC,cD,cE,cF,cG];omega)) ?_|refine yn ?_|refine q_know _ _ (some true) rfl rfl rfl ?_|refine q_know _ _ (some false) rfl rfl rfl ?_|refine q_know _ _ none rfl rfl rfl ?_)
        refine q_load rfl (fun w hs => (hs.blk hB7).cell rfl) rfl rfl rfl rfl ?_
        (repeat first|refine yo rfl rfl (by first|exact trivial|(simp only[AllP];omega)|(simp(discharger:=omega)only[AllP,cA,cB];omega)|(simp only[AllP,cC,cD,cE,cF,cG];omega)) ?_|refine yn ?_|refine q_know _ _ (some true) rfl rfl rfl ?_|refine q_know _ _ (some false) rfl rfl rfl ?_|refine q_know _ _ none rfl rfl rfl ?_)
        refine q_load (v := I (-9)) rfl (fun w hs => by rw [← hlast]; exact World.cell?_of_block (by rw [hs.heap])) rfl rfl rfl rfl ?_
        (repeat first|refine yo rfl rfl (by first|exact trivial|(simp only[AllP];omega)|(simp(discharger:=omega)only[AllP,cA,cB];omega)|(simp only[AllP,cC,cD,cE,cF,cG];omega)) ?_|refine yn ?_|refine q_know _ _ (some true) rfl rfl rfl ?_|refine q_know _ _ (some false) rfl rfl rfl ?_|refine q_know _ _ none rfl rfl rfl ?_)
        intro w8 hs8
        refine r_no rfl (by simp) ?_
        (repeat first|refine zA ?_|refine zB ?_|refine zC ?_|refine zD ?_|refine zE ?_|refine zg ?_|refine zo rfl rfl (by first|exact trivial|(simp only[AllP];omega)|(simp(discharger:=omega)only[AllP,cA,cB];omega)|(simp only[AllP,cC,cD,cE,cF,cG];omega)) ?_|refine zn ?_|refine zb ?_|refine ze rfl ?_|refine zr ?_|refine zk ?_|refine zT rfl rfl rfl ?_|refine zU rfl rfl rfl ?_|refine zV rfl rfl rfl ?_|refine zf rfl ?_|refine zt rfl ?_)
        exact ⟨(), rfl, hs8⟩
    rintro ⟨⟩ e w8 hs8
    have ho8 := ho7.kp (hs8.kp []) (by simp)
    (repeat first|refine zA ?_|refine zB ?_|refine zC ?_|refine zD ?_|refine zE ?_|refine zg ?_|refine zo rfl rfl (by first|exact trivial|(simp only[AllP];omega)|(simp(discharger:=omega)only[AllP,cA,cB];omega)|(simp only[AllP,cC,cD,cE,cF,cG];omega)) ?_|refine zn ?_|refine zb ?_|refine ze rfl ?_|refine zr ?_|refine zk ?_|refine zT rfl rfl rfl ?_|refine zU rfl rfl rfl ?_|refine zV rfl rfl rfl ?_|refine zf rfl ?_|refine zt rfl ?_)
    refine r_loop (α := Nat × List Value) [0, 5, 8, 9, 11, 13] (fun y => [ptr W, I on, .slice (some ⟨ba, oa, none⟩) (x.ns.length + 1) cl, qv q, qv q', I y.1]) (fun y w' => OwnS w' 3 1 (some ⟨ba, oa, none⟩) (x.ns.length + 1) cl y.2 ∧ Kp (blkOf (some ⟨ba, oa, none⟩)) w8 w' ∧ y.1 ≤ x.ns.length + 1) (fun y => x.ns.length + 1 - y.1) (0, _) rfl ⟨by simpa using ho8, Kp.refl _ _, by omega⟩ ?_
    rintro ⟨i, ys⟩ e w9 ⟨ho, hk9, hi⟩
    dsimp only at ho hi ⊢
    (repeat first|refine zA ?_|refine zB ?_|refine zC ?_|refine zD ?_|refine zE ?_|refine zg ?_|refine zo rfl rfl (by first|exact trivial|(simp only[AllP];omega)|(simp(discharger:=omega)only[AllP,cA,cB];omega)|(simp only[AllP,cC,cD,cE,cF,cG];omega)) ?_|refine zn ?_|refine zb ?_|refine ze rfl ?_|refine zr ?_|refine zk ?_|refine zT rfl rfl rfl ?_|refine zU rfl rfl rfl ?_|refine zV rfl rfl rfl ?_|refine zf rfl ?_|refine zt rfl ?_)
    refine r_if rfl (fun hc => ?_) (fun hc => ?_)
    · obtain ⟨b, L, hae, hb, hbl, hset⟩ := ho.wr (i := i) (by omega)
      obtain ⟨rfl, rfl⟩ : ba = b ∧ oa = 0 := by simpa using hae
      (repeat first|refine zA ?_|refine zB ?_|refine zC ?_|refine zD ?_|refine zE ?_|refine zg ?_|refine zo rfl rfl (by first|exact trivial|(simp only[AllP];omega)|(simp(discharger:=omega)only[AllP,cA,cB];omega)|(simp only[AllP,cC,cD,cE,cF,cG];omega)) ?_|refine zn ?_|refine zb ?_|refine ze rfl ?_|refine zr ?_|refine zk ?_|refine zT rfl rfl rfl ?_|refine zU rfl rfl rfl ?_|refine zV rfl rfl rfl ?_|refine zf rfl ?_|refine zt rfl ?_)
      refine o_store (b := ba) (off := i) (v := I 1) (c := none) ?_ hb hbl rfl rfl rfl rfl rfl rfl ?_
      · show Value.pointer (some ⟨ba, 0 + i, none⟩) = _
        rw [Nat.zero_add]
      intro w10 hu10
      (repeat first|refine zA ?_|refine zB ?_|refine zC ?_|refine zD ?_|refine zE ?_|refine zg ?_|refine zo rfl rfl (by first|exact trivial|(simp only[AllP];omega)|(simp(discharger:=omega)only[AllP,cA,cB];omega)|(simp only[AllP,cC,cD,cE,cF,cG];omega)) ?_|refine zn ?_|refine zb ?_|refine ze rfl ?_|refine zr ?_|refine zk ?_|refine zT rfl rfl rfl ?_|refine zU rfl rfl rfl ?_|refine zV rfl rfl rfl ?_|refine zf rfl ?_|refine zt rfl ?_)
      exact ⟨(i + 1, _), rfl, ⟨hset _ w10 hu10, hk9.trans (hu10.kp _ (.inl (by simp [blkOf]))), by dsimp only; omega⟩, by dsimp only; omega⟩
    (repeat first|refine zA ?_|refine zB ?_|refine zC ?_|refine zD ?_|refine zE ?_|refine zg ?_|refine zo rfl rfl (by first|exact trivial|(simp only[AllP];omega)|(simp(discharger:=omega)only[AllP,cA,cB];omega)|(simp only[AllP,cC,cD,cE,cF,cG];omega)) ?_|refine zn ?_|refine zb ?_|refine ze rfl ?_|refine zr ?_|refine zk ?_|refine zT rfl rfl rfl ?_|refine zU rfl rfl rfl ?_|refine zV rfl rfl rfl ?_|refine zf rfl ?_|refine zt rfl ?_)
    have k79 : Kp (blkOf (some ⟨ba, oa, none⟩)) w7 w9 := ((hs8.kp []).mono (by simp)).trans hk9
    have hnb := n5.new
    have z1 := k1.size
    have g9 : PX w0 w9 W sl g := g7.frame k79 (fun b hb => hg1.pi.away (hnb b hb)) (fun b hb => by have := hnb b hb; have := hg1.pi.kp.size; omega)
    refine o_store (b := W) (off := on) (v := qv q) (c := none) ?_ g9.pi.hdr (by rw [rowL_len]; omega) rfl rfl rfl rfl rfl rfl ?_
    · show Value.pointer (some ⟨W, 0 + on, none⟩) = _
      rw [Nat.zero_add]
    intro w10 hu10
    (repeat first|refine zA ?_|refine zB ?_|refine zC ?_|refine zD ?_|refine zE ?_|refine zg ?_|refine zo rfl rfl (by first|exact trivial|(simp only[AllP];omega)|(simp(discharger:=omega)only[AllP,cA,cB];omega)|(simp only[AllP,cC,cD,cE,cF,cG];omega)) ?_|refine zn ?_|refine zb ?_|refine ze rfl ?_|refine zr ?_|refine zk ?_|refine zT rfl rfl rfl ?_|refine zU rfl rfl rfl ?_|refine zV rfl rfl rfl ?_|refine zf rfl ?_|refine zt rfl ?_)
    refine o_store (b := W) (off := 4 + on) (v := qv q') (c := none) rfl hu10.blk (by rw [List.length_set, rowL_len]; omega) rfl rfl rfl rfl rfl rfl ?_
    intro w11 hu11
    (repeat first|refine zA ?_|refine zB ?_|refine zC ?_|refine zD ?_|refine zE ?_|refine zg ?_|refine zo rfl rfl (by first|exact trivial|(simp only[AllP];omega)|(simp(discharger:=omega)only[AllP,cA,cB];omega)|(simp only[AllP,cC,cD,cE,cF,cG];omega)) ?_|refine zn ?_|refine zb ?_|refine ze rfl ?_|refine zr ?_|refine zk ?_|refine zT rfl rfl rfl ?_|refine zU rfl rfl rfl ?_|refine zV rfl rfl rfl ?_|refine zf rfl ?_|refine zt rfl ?_)
    exact ⟨_, rfl, rfl, PX.lay hon g5 hqq (fun _ => (tr_newW x.ns [] (WOk.zeros 0) tr_nil).2) k6 hn6 k7 hn7 k79 (fun b hb => n5.own.lt b hb) g9 hu10 hu11⟩
  (repeat first|refine zA ?_|refine zB ?_|refine zC ?_|refine zD ?_|refine zE ?_|refine zg ?_|refine zo rfl rfl (by first|exact trivial|(simp only[AllP];omega)|(simp(discharger:=omega)only[AllP,cA,cB];omega)|(simp only[AllP,cC,cD,cE,cF,cG];omega)) ?_|refine zn ?_|refine zb ?_|refine ze rfl ?_|refine zr ?_|refine zk ?_|refine zT rfl rfl rfl ?_|refine zU rfl rfl rfl ?_|refine zV rfl rfl rfl ?_|refine zf rfl ?_|refine zt rfl ?_)
  refine r_if (p := x.d = 1) rfl (fun hd1 => ?_) (fun hd1 => ?_)
  · (repeat first|refine zA ?_|refine zB ?_|refine zC ?_|refine zD ?_|refine zE ?_|refine zg ?_|refine zo rfl rfl (by first|exact trivial|(simp only[AllP];omega)|(simp(discharger:=omega)only[AllP,cA,cB];omega)|(simp only[AllP,cC,cD,cE,cF,cG];omega)) ?_|refine zn ?_|refine zb ?_|refine ze rfl ?_|refine zr ?_|refine zk ?_|refine zT rfl rfl rfl ?_|refine zU rfl rfl rfl ?_|refine zV rfl rfl rfl ?_|refine zf rfl ?_|refine zt rfl ?_)
    have hnl := hx1.ul
    refine o_load rfl hB1 rfl rfl rfl rfl rfl ?_
    refine o_appendNil (x.us.map U) rfl rfl hx1.us rfl rfl rfl (by simp) (by simp [Value.oneCell']) (by simp only [maxLen]; omega) (by omega) rfl rfl ?_
    intro a3 c3 w3 n3
    refine o_buildSlice [U 9] rfl (by simp [Value.oneCell']) rfl (by decide) (by decide) rfl rfl rfl rfl rfl ?_
    intro b4 w4 hb4 hu4
    have k34 := hu4.kp [] (.inr (by omega))
    refine o_append1 rfl rfl (n3.own.kp k34 (by simp)) hu4.blk rfl rfl rfl rfl (by simp only [maxLen]; omega) (by omega) rfl rfl ?_
    intro al cl w5 ho5 k5 hnew5
    have n5 := n3.push k34 ho5 k5 hnew5
    have g5 := hg1.kp0 n5.kp
    have hB5 := n5.kp.blk (by simp) hB1
    have hcap := n5.own.le_cap
    (repeat first|refine zA ?_|refine zB ?_|refine zC ?_|refine zD ?_|refine zE ?_|refine zg ?_|refine zo rfl rfl (by first|exact trivial|(simp only[AllP];omega)|(simp(discharger:=omega)only[AllP,cA,cB];omega)|(simp only[AllP,cC,cD,cE,cF,cG];omega)) ?_|refine zn ?_|refine zb ?_|refine ze rfl ?_|refine zr ?_|refine zk ?_|refine zT rfl rfl rfl ?_|refine zU rfl rfl rfl ?_|refine zV rfl rfl rfl ?_|refine zf rfl ?_|refine zt rfl ?_)
    refine o_load rfl hB5 rfl rfl rfl rfl rfl ?_
    (repeat first|refine zA ?_|refine zB ?_|refine zC ?_|refine zD ?_|refine zE ?_|refine zg ?_|refine zo rfl rfl (by first|exact trivial|(simp only[AllP];omega)|(simp(discharger:=omega)only[AllP,cA,cB];omega)|(simp only[AllP,cC,cD,cE,cF,cG];omega)) ?_|refine zn ?_|refine zb ?_|refine ze rfl ?_|refine zr ?_|refine zk ?_|refine zT rfl rfl rfl ?_|refine zU rfl rfl rfl ?_|refine zV rfl rfl rfl ?_|refine zf rfl ?_|refine zt rfl ?_)
    have hr5 : ReadS w5 al (x.us.map U) := by
      have := n5.read.take x.us.length
      rwa [List.take_left' (by simp)] at this
    refine o_call (OfQ g5.pi.tab hr5 hx1.uok rfl (by omega)) rfl rfl rfl ?_
    rintro v w6 ⟨q, e1, rfl, he1, hq, k6, hn6⟩
    (repeat first|refine zA ?_|refine zB ?_|refine zC ?_|refine zD ?_|refine zE ?_|refine zg ?_|refine zo rfl rfl (by first|exact trivial|(simp only[AllP];omega)|(simp(discharger:=omega)only[AllP,cA,cB];omega)|(simp only[AllP,cC,cD,cE,cF,cG];omega)) ?_|refine zn ?_|refine zb ?_|refine ze rfl ?_|refine zr ?_|refine zk ?_|refine zT rfl rfl rfl ?_|refine zU rfl rfl rfl ?_|refine zV rfl rfl rfl ?_|refine zf rfl ?_|refine zt rfl ?_)
    have hB6 := k6.blk (by simp) hB5
    have g6 := g5.kp0 k6
    refine o_load rfl hB6 rfl rfl rfl rfl rfl ?_
    (repeat first|refine zA ?_|refine zB ?_|refine zC ?_|refine zD ?_|refine zE ?_|refine zg ?_|refine zo rfl rfl (by first|exact trivial|(simp only[AllP];omega)|(simp(discharger:=omega)only[AllP,cA,cB];omega)|(simp only[AllP,cC,cD,cE,cF,cG];omega)) ?_|refine zn ?_|refine zb ?_|refine ze rfl ?_|refine zr ?_|refine zk ?_|refine zT rfl rfl rfl ?_|refine zU rfl rfl rfl ?_|refine zV rfl rfl rfl ?_|refine zf rfl ?_|refine zt rfl ?_)
    refine o_call (refOfQ g6.pi.tab (hx1.us.kp (n5.kp.trans k6) (by simp)) hx1.uok rfl (by omega)) rfl rfl rfl ?_
    rintro v w7 ⟨q', e2, rfl, he2, hq', k7, hn7⟩
    have g7 := g6.kp0 k7
    have hB7 := k7.blk (by simp) hB6
    have k57 := k6.trans k7
    have ho7 := n5.own.kp k57 (by simp)
    have hqq : q.isSome = q'.isSome := (Bool.eq_iff_iff.2 (hq.trans hq'.symm))
    have he : e1 = e2 := by rw [he1, he2, hqq]
    subst he
    obtain ⟨ba, oa, hae, hba, hca⟩ := ho7.read.at_ (by simp)
    subst hae
    have hlast := hca x.us.length (U 9) (by simp)
    have hsx := hx1.us.kp (n5.kp.trans k57) (by simp)
    (repeat first|refine zA ?_|refine zB ?_|refine zC ?_|refine zD ?_|refine zE ?_|refine zg ?_|refine zo rfl rfl (by first|exact trivial|(simp only[AllP];omega)|(simp(discharger:=omega)only[AllP,cA,cB];omega)|(simp only[AllP,cC,cD,cE,cF,cG];omega)) ?_|refine zn ?_|refine zb ?_|refine ze rfl ?_|refine zr ?_|refine zk ?_|refine zT rfl rfl rfl ?_|refine zU rfl rfl rfl ?_|refine zV rfl rfl rfl ?_|refine zf rfl ?_|refine zt rfl ?_)
    refine r_seq ?_
    refine r_cut (α := Unit) [0, 5, 14, 15, 17] (fun _ => [ptr W, I on, .slice (some ⟨ba, oa, none⟩) (x.us.length + 1) cl, qv q, qv q']) (fun _ w' => Sm w7 w') ?_ ?_
    · refine r_seq ?_
      cases q with
      | none =>
       cases q' with
       | some y' => cases hqq
       | none =>
        refine r_quietS follows_mixed (by kernel_rfl) ?_
        (repeat first|refine yo rfl rfl (by first|exact trivial|(simp only[AllP];omega)|(simp(discharger:=omega)only[AllP,cA,cB];omega)|(simp only[AllP,cC,cD,cE,cF,cG];omega)) ?_|refine yn ?_|refine q_know _ _ (some true) rfl rfl rfl ?_|refine q_know _ _ (some false) rfl rfl rfl ?_|refine q_know _ _ none rfl rfl rfl ?_)
        refine q_call _ (q_of fun w1 hs => num_ret _) Tryd.call22 rfl rfl rfl ?_
        (repeat first|refine yo rfl rfl (by first|exact trivial|(simp only[AllP];omega)|(simp(discharger:=omega)only[AllP,cA,cB];omega)|(simp only[AllP,cC,cD,cE,cF,cG];omega)) ?_|refine yn ?_|refine q_know _ _ (some true) rfl rfl rfl ?_|refine q_know _ _ (some false) rfl rfl rfl ?_|refine q_know _ _ none rfl rfl rfl ?_)
        refine q_is false 4 false rfl rfl rfl (by simp) ?_
        (repeat first|refine yo rfl rfl (by first|exact trivial|(simp only[AllP];omega)|(simp(discharger:=omega)only[AllP,cA,cB];omega)|(simp only[AllP,cC,cD,cE,cF,cG];omega)) ?_|refine yn ?_|refine q_know _ _ (some true) rfl rfl rfl ?_|refine q_know _ _ (some false) rfl rfl rfl ?_|refine q_know _ _ none rfl rfl rfl ?_)
        refine q_load rfl (fun w hs => (hs.blk hB7).cell rfl) rfl rfl rfl rfl ?_
        (repeat first|refine yo rfl rfl (by first|exact trivial|(simp only[AllP];omega)|(simp(discharger:=omega)only[AllP,cA,cB];omega)|(simp only[AllP,cC,cD,cE,cF,cG];omega)) ?_|refine yn ?_|refine q_know _ _ (some true) rfl rfl rfl ?_|refine q_know _ _ (some false) rfl rfl rfl ?_|refine q_know _ _ none rfl rfl rfl ?_)
        refine q_load rfl (fun w hs => (hs.blk hB7).cell rfl) rfl rfl rfl rfl ?_
        (repeat first|refine yo rfl rfl (by first|exact trivial|(simp only[AllP];omega)|(simp(discharger:=omega)only[AllP,cA,cB];omega)|(simp only[AllP,cC,cD,cE,cF,cG];omega)) ?_|refine yn ?_|refine q_know _ _ (some true) rfl rfl rfl ?_|refine q_know _ _ (some false) rfl rfl rfl ?_|refine q_know _ _ none rfl rfl rfl ?_)
        refine q_call (.bool true) (fun w1 hs => (sameWords_eq ((hr5.kp k57 (by simp)).kp (hs.kp []) (by simp)) (hsx.kp (hs.kp []) (by simp)) rfl rfl (by omega)).mono fun v w' ⟨h1, h2⟩ => ⟨h1, hs.trans h2⟩) Tryd.call23 rfl rfl rfl ?_
        (repeat first|refine yo rfl rfl (by first|exact trivial|(simp only[AllP];omega)|(simp(discharger:=omega)only[AllP,cA,cB];omega)|(simp only[AllP,cC,cD,cE,cF,cG];omega)) ?_|refine yn ?_|refine q_know _ _ (some true) rfl rfl rfl ?_|refine q_know _ _ (some false) rfl rfl rfl ?_|refine q_know _ _ none rfl rfl rfl ?_)
        refine q_load rfl (fun w hs => (hs.blk hB7).cell rfl) rfl rfl rfl rfl ?_
        (repeat first|refine yo rfl rfl (by first|exact trivial|(simp only[AllP];omega)|(simp(discharger:=omega)only[AllP,cA,cB];omega)|(simp only[AllP,cC,cD,cE,cF,cG];omega)) ?_|refine yn ?_|refine q_know _ _ (some true) rfl rfl rfl ?_|refine q_know _ _ (some false) rfl rfl rfl ?_|refine q_know _ _ none rfl rfl rfl ?_)
        refine q_load (v := U 9) rfl (fun w hs => by rw [← hlast]; exact World.cell?_of_block (by rw [hs.heap])) rfl rfl rfl rfl ?_
        (repeat first|refine yo rfl rfl (by first|exact trivial|(simp only[AllP];omega)|(simp(discharger:=omega)only[AllP,cA,cB];omega)|(simp only[AllP,cC,cD,cE,cF,cG];omega)) ?_|refine yn ?_|refine q_know _ _ (some true) rfl rfl rfl ?_|refine q_know _ _ (some false) rfl rfl rfl ?_|refine q_know _ _ none rfl rfl rfl ?_)
        intro w8 hs8
        refine r_no rfl (by simp) ?_
        (repeat first|refine zA ?_|refine zB ?_|refine zC ?_|refine zD ?_|refine zE ?_|refine zg ?_|refine zo rfl rfl (by first|exact trivial|(simp only[AllP];omega)|(simp(discharger:=omega)only[AllP,cA,cB];omega)|(simp only[AllP,cC,cD,cE,cF,cG];omega)) ?_|refine zn ?_|refine zb ?_|refine ze rfl ?_|refine zr ?_|refine zk ?_|refine zT rfl rfl rfl ?_|refine zU rfl rfl rfl ?_|refine zV rfl rfl rfl ?_|refine zf rfl ?_|refine zt rfl ?_)
        exact ⟨(), rfl, hs8⟩
      | some y =>
       cases q' with
       | none => cases hqq
       | some y' =>
        refine r_quietS follows_mixed (by kernel_rfl) ?_
        (repeat first|refine yo rfl rfl (by first|exact trivial|(simp only[AllP];omega)|(simp(discharger:=omega)only[AllP,cA,cB];omega)|(simp only[AllP,cC,cD,cE,cF,cG];omega)) ?_|refine yn ?_|refine q_know _ _ (some true) rfl rfl rfl ?_|refine q_know _ _ (some false) rfl rfl rfl ?_|refine q_know _ _ none rfl rfl rfl ?_)
        refine q_call _ (q_of fun w1 hs => num_ret _) Tryd.call22 rfl rfl rfl ?_
        (repeat first|refine yo rfl rfl (by first|exact trivial|(simp only[AllP];omega)|(simp(discharger:=omega)only[AllP,cA,cB];omega)|(simp only[AllP,cC,cD,cE,cF,cG];omega)) ?_|refine yn ?_|refine q_know _ _ (some true) rfl rfl rfl ?_|refine q_know _ _ (some false) rfl rfl rfl ?_|refine q_know _ _ none rfl rfl rfl ?_)
        refine q_is false 4 false rfl rfl rfl (by simp) ?_
        (repeat first|refine yo rfl rfl (by first|exact trivial|(simp only[AllP];omega)|(simp(discharger:=omega)only[AllP,cA,cB];omega)|(simp only[AllP,cC,cD,cE,cF,cG];omega)) ?_|refine yn ?_|refine q_know _ _ (some true) rfl rfl rfl ?_|refine q_know _ _ (some false) rfl rfl rfl ?_|refine q_know _ _ none rfl rfl rfl ?_)
        refine q_load rfl (fun w hs => (hs.blk hB7).cell rfl) rfl rfl rfl rfl ?_
        (repeat first|refine yo rfl rfl (by first|exact trivial|(simp only[AllP];omega)|(simp(discharger:=omega)only[AllP,cA,cB];omega)|(simp only[AllP,cC,cD,cE,cF,cG];omega)) ?_|refine yn ?_|refine q_know _ _ (some true) rfl rfl rfl ?_|refine q_know _ _ (some false) rfl rfl rfl ?_|refine q_know _ _ none rfl rfl rfl ?_)
        refine q_load rfl (fun w hs => (hs.blk hB7).cell rfl) rfl rfl rfl rfl ?_
        (repeat first|refine yo rfl rfl (by first|exact trivial|(simp only[AllP];omega)|(simp(discharger:=omega)only[AllP,cA,cB];omega)|(simp only[AllP,cC,cD,cE,cF,cG];omega)) ?_|refine yn ?_|refine q_know _ _ (some true) rfl rfl rfl ?_|refine q_know _ _ (some false) rfl rfl rfl ?_|refine q_know _ _ none rfl rfl rfl ?_)
        refine q_call (.bool true) (fun w1 hs => (sameWords_eq ((hr5.kp k57 (by simp)).kp (hs.kp []) (by simp)) (hsx.kp (hs.kp []) (by simp)) rfl rfl (by omega)).mono fun v w' ⟨h1, h2⟩ => ⟨h1, hs.trans h2⟩) Tryd.call23 rfl rfl rfl ?_
        (repeat first|refine yo rfl rfl (by first|exact trivial|(simp only[AllP];omega)|(simp(discharger:=omega)only[AllP,cA,cB];omega)|(simp only[AllP,cC,cD,cE,cF,cG];omega)) ?_|refine yn ?_|refine q_know _ _ (some true) rfl rfl rfl ?_|refine q_know _ _ (some false) rfl rfl rfl ?_|refine q_know _ _ none rfl rfl rfl ?_)
        refine q_load rfl (fun w hs => (hs.blk hB7).cell rfl) rfl rfl rfl rfl ?_
        (repeat first|refine yo rfl rfl (by first|exact trivial|(simp only[AllP];omega)|(simp(discharger:=omega)only[AllP,cA,cB];omega)|(simp only[AllP,cC,cD,cE,cF,cG];omega)) ?_|refine yn ?_|refine q_know _ _ (some true) rfl rfl rfl ?_|refine q_know _ _ (some false) rfl rfl rfl ?_|refine q_know _ _ none rfl rfl rfl ?_)
        refine q_load (v := U 9) rfl (fun w hs => by rw [← hlast]; exact World.cell?_of_block (by rw [hs.heap])) rfl rfl rfl rfl ?_
        (repeat first|refine yo rfl rfl (by first|exact trivial|(simp only[AllP];omega)|(simp(discharger:=omega)only[AllP,cA,cB];omega)|(simp only[AllP,cC,cD,cE,cF,cG];omega)) ?_|refine yn ?_|refine q_know _ _ (some true) rfl rfl rfl ?_|refine q_know _ _ (some false) rfl rfl rfl ?_|refine q_know _ _ none rfl rfl rfl ?_)
        intro w8 hs8
        refine r_no rfl (by simp) ?_
        (repeat first|refine zA ?_|refine zB ?_|refine zC ?_|refine zD ?_|refine zE ?_|refine zg ?_|refine zo rfl rfl (by first|exact trivial|(simp only[AllP];omega)|(simp(discharger:=omega)only[AllP,cA,cB];omega)|(simp only[AllP,cC,cD,cE,cF,cG];omega)) ?_|refine zn ?_|refine zb ?_|refine ze rfl ?_|refine zr ?_|refine zk ?_|refine zT rfl rfl rfl ?_|refine zU rfl rfl rfl ?_|refine zV rfl rfl rfl ?_|refine zf rfl ?_|refine zt rfl ?_)
        exact ⟨(), rfl, hs8⟩
    rintro ⟨⟩ e w8 hs8
    have ho8 := ho7.kp (hs8.kp []) (by simp)
    (repeat first|refine zA ?_|refine zB ?_|refine zC ?_|refine zD ?_|refine zE ?_|refine zg ?_|refine zo rfl rfl (by first|exact trivial|(simp only[AllP];omega)|(simp(discharger:=omega)only[AllP,cA,cB];omega)|(simp only[AllP,cC,cD,cE,cF,cG];omega)) ?_|refine zn ?_|refine zb ?_|refine ze rfl ?_|refine zr ?_|refine zk ?_|refine zT rfl rfl rfl ?_|refine zU rfl rfl rfl ?_|refine zV rfl rfl rfl ?_|refine zf rfl ?_|refine zt rfl ?_)
    refine r_loop (α := Nat × List Value) [0, 5, 14, 15, 17, 19] (fun y => [ptr W, I on, .slice (some ⟨ba, oa, none⟩) (x.us.length + 1) cl, qv q, qv q', I y.1]) (fun y w' => OwnS w' 41 1 (some ⟨ba, oa, none⟩) (x.us.length + 1) cl y.2 ∧ Kp (blkOf (some ⟨ba, oa, none⟩)) w8 w' ∧ y.1 ≤ x.us.length + 1) (fun y => x.us.length + 1 - y.1) (0, _) rfl ⟨by simpa using ho8, Kp.refl _ _, by omega⟩ ?_
    rintro ⟨i, ys⟩ e w9 ⟨ho, hk9, hi⟩
    dsimp only at ho hi ⊢
    (repeat first|refine zA ?_|refine zB ?_|refine zC ?_|refine zD ?_|refine zE ?_|refine zg ?_|refine zo rfl rfl (by first|exact trivial|(simp only[AllP];omega)|(simp(discharger:=omega)only[AllP,cA,cB];omega)|(simp only[AllP,cC,cD,cE,cF,cG];omega)) ?_|refine zn ?_|refine zb ?_|refine ze rfl ?_|refine zr ?_|refine zk ?_|refine zT rfl rfl rfl ?_|refine zU rfl rfl rfl ?_|refine zV rfl rfl rfl ?_|refine zf rfl ?_|refine zt rfl ?_)
    refine r_if rfl (fun hc => ?_) (fun hc => ?_)
    · obtain ⟨b, L, hae, hb, hbl, hset⟩ := ho.wr (i := i) (by omega)
      obtain ⟨rfl, rfl⟩ : ba = b ∧ oa = 0 := by simpa using hae
      (repeat first|refine zA ?_|refine zB ?_|refine zC ?_|refine zD ?_|refine zE ?_|refine zg ?_|refine zo rfl rfl (by first|exact trivial|(simp only[AllP];omega)|(simp(discharger:=omega)only[AllP,cA,cB];omega)|(simp only[AllP,cC,cD,cE,cF,cG];omega)) ?_|refine zn ?_|refine zb ?_|refine ze rfl ?_|refine zr ?_|refine zk ?_|refine zT rfl rfl rfl ?_|refine zU rfl rfl rfl ?_|refine zV rfl rfl rfl ?_|refine zf rfl ?_|refine zt rfl ?_)
      refine o_store (b := ba) (off := i) (v := U 1) (c := none) ?_ hb hbl rfl rfl rfl rfl rfl rfl ?_
      · show Value.pointer (some ⟨ba, 0 + i, none⟩) = _
        rw [Nat.zero_add]
      intro w10 hu10
      (repeat first|refine zA ?_|refine zB ?_|refine zC ?_|refine zD ?_|refine zE ?_|refine zg ?_|refine zo rfl rfl (by first|exact trivial|(simp only[AllP];omega)|(simp(discharger:=omega)only[AllP,cA,cB];omega)|(simp only[AllP,cC,cD,cE,cF,cG];omega)) ?_|refine zn ?_|refine zb ?_|refine ze rfl ?_|refine zr ?_|refine zk ?_|refine zT rfl rfl rfl ?_|refine zU rfl rfl rfl ?_|refine zV rfl rfl rfl ?_|refine zf rfl ?_|refine zt rfl ?_)
      exact ⟨(i + 1, _), rfl, ⟨hset _ w10 hu10, hk9.trans (hu10.kp _ (.inl (by simp [blkOf]))), by dsimp only; omega⟩, by dsimp only; omega⟩
    (repeat first|refine zA ?_|refine zB ?_|refine zC ?_|refine zD ?_|refine zE ?_|refine zg ?_|refine zo rfl rfl (by first|exact trivial|(simp only[AllP];omega)|(simp(discharger:=omega)only[AllP,cA,cB];omega)|(simp only[AllP,cC,cD,cE,cF,cG];omega)) ?_|refine zn ?_|refine zb ?_|refine ze rfl ?_|refine zr ?_|refine zk ?_|refine zT rfl rfl rfl ?_|refine zU rfl rfl rfl ?_|refine zV rfl rfl rfl ?_|refine zf rfl ?_|refine zt rfl ?_)
    have k79 : Kp (blkOf (some ⟨ba, oa, none⟩)) w7 w9 := ((hs8.kp []).mono (by simp)).trans hk9
    have hnb := n5.new
    have z1 := k1.size
    have g9 : PX w0 w9 W sl g := g7.frame k79 (fun b hb => hg1.pi.away (hnb b hb)) (fun b hb => by have := hnb b hb; have := hg1.pi.kp.size; omega)
    refine o_store (b := W) (off := on) (v := qv q) (c := none) ?_ g9.pi.hdr (by rw [rowL_len]; omega) rfl rfl rfl rfl rfl rfl ?_
    · show Value.pointer (some ⟨W, 0 + on, none⟩) = _
      rw [Nat.zero_add]
    intro w10 hu10
    (repeat first|refine zA ?_|refine zB ?_|refine zC ?_|refine zD ?_|refine zE ?_|refine zg ?_|refine zo rfl rfl (by first|exact trivial|(simp only[AllP];omega)|(simp(discharger:=omega)only[AllP,cA,cB];omega)|(simp only[AllP,cC,cD,cE,cF,cG];omega)) ?_|refine zn ?_|refine zb ?_|refine ze rfl ?_|refine zr ?_|refine zk ?_|refine zT rfl rfl rfl ?_|refine zU rfl rfl rfl ?_|refine zV rfl rfl rfl ?_|refine zf rfl ?_|refine zt rfl ?_)
    refine o_store (b := W) (off := 4 + on) (v := qv q') (c := none) rfl hu10.blk (by rw [List.length_set, rowL_len]; omega) rfl rfl rfl rfl rfl rfl ?_
    intro w11 hu11
    (repeat first|refine zA ?_|refine zB ?_|refine zC ?_|refine zD ?_|refine zE ?_|refine zg ?_|refine zo rfl rfl (by first|exact trivial|(simp only[AllP];omega)|(simp(discharger:=omega)only[AllP,cA,cB];omega)|(simp only[AllP,cC,cD,cE,cF,cG];omega)) ?_|refine zn ?_|refine zb ?_|refine ze rfl ?_|refine zr ?_|refine zk ?_|refine zT rfl rfl rfl ?_|refine zU rfl rfl rfl ?_|refine zV rfl rfl rfl ?_|refine zf rfl ?_|refine zt rfl ?_)
    exact ⟨_, rfl, rfl, PX.lay hon g5 hqq (fun _ => tr_trim x.us) k6 hn6 k7 (fun y hy => by rw [elems_trim]; exact hn7 y hy) k79 (fun b hb => n5.own.lt b hb) g9 hu10 hu11⟩
  (repeat first|refine zA ?_|refine zB ?_|refine zC ?_|refine zD ?_|refine zE ?_|refine zg ?_|refine zo rfl rfl (by first|exact trivial|(simp only[AllP];omega)|(simp(discharger:=omega)only[AllP,cA,cB];omega)|(simp only[AllP,cC,cD,cE,cF,cG];omega)) ?_|refine zn ?_|refine zb ?_|refine ze rfl ?_|refine zr ?_|refine zk ?_|refine zT rfl rfl rfl ?_|refine zU rfl rfl rfl ?_|refine zV rfl rfl rfl ?_|refine zf rfl ?_|refine zt rfl ?_)
  refine r_if (p := x.d = 2) rfl (fun hd2 => ?_) (fun hd2 => ?_)
  · (repeat first|refine zA ?_|refine zB ?_|refine zC ?_|refine zD ?_|refine zE ?_|refine zg ?_|refine zo rfl rfl (by first|exact trivial|(simp only[AllP];omega)|(simp(discharger:=omega)only[AllP,cA,cB];omega)|(simp only[AllP,cC,cD,cE,cF,cG];omega)) ?_|refine zn ?_|refine zb ?_|refine ze rfl ?_|refine zr ?_|refine zk ?_|refine zT rfl rfl rfl ?_|refine zU rfl rfl rfl ?_|refine zV rfl rfl rfl ?_|refine zf rfl ?_|refine zt rfl ?_)
    refine r_seq ?_
    refine r_mix (fun w' => Blk w' bx (opC x) 93) [(0, false), (1, false), (2, false), (5, false), (6, false), (7, false), (3, true), (4, true), (8, true), (9, false), (10, false)] follows_mixed (by kernel_rfl) (by kernel_rfl) (by kernel_rfl) ((Sm.drew w2).blk hB1) ?_
    have gd := hg1.sm (Sm.drew w2)
    have hBd := (Sm.drew w2).blk hB1
    generalize ({ w2 with drawn := w2.drawn + 1 } : World) = w3 at gd hBd ⊢
    have hbs : bx ∉ slb (sl on) := fun hb => by
      have := hg.pi.dj.lt on bx (by rw [dd_sl hon]; exact hb); omega
    (repeat first|refine xo rfl rfl (by first|exact trivial|(simp only[AllP];omega)|(simp(discharger:=omega)only[AllP,cA,cB];omega)|(simp only[AllP,cC,cD,cE,cF,cG];omega)) ?_|refine xn ?_|refine x_know rfl _ _ (some true) rfl rfl rfl ?_|refine x_know rfl _ _ (some false) rfl rfl rfl ?_|refine x_know rfl _ _ none rfl rfl rfl ?_)
    refine x_load rfl rfl (fun w' h' => h'.cell rfl) rfl rfl rfl rfl ?_
    (repeat first|refine xo rfl rfl (by first|exact trivial|(simp only[AllP];omega)|(simp(discharger:=omega)only[AllP,cA,cB];omega)|(simp only[AllP,cC,cD,cE,cF,cG];omega)) ?_|refine xn ?_|refine x_know rfl _ _ (some true) rfl rfl rfl ?_|refine x_know rfl _ _ (some false) rfl rfl rfl ?_|refine x_know rfl _ _ none rfl rfl rfl ?_)
    refine x_load rfl rfl (fun w' h' => h'.cell rfl) rfl rfl rfl rfl ?_
    (repeat first|refine xo rfl rfl (by first|exact trivial|(simp only[AllP];omega)|(simp(discharger:=omega)only[AllP,cA,cB];omega)|(simp only[AllP,cC,cD,cE,cF,cG];omega)) ?_|refine xn ?_|refine x_know rfl _ _ (some true) rfl rfl rfl ?_|refine x_know rfl _ _ (some false) rfl rfl rfl ?_|refine x_know rfl _ _ none rfl rfl rfl ?_)
    refine x_act rfl ?_
    refine o_call (PutO gd.pi.tab (gd.pi.slots on hon) x.n) rfl rfl rfl ?_
    rintro v w4 ⟨rfl, hh⟩
    have hB4 := (hh.kp (gd.pi.slots on hon)).blk hbs hBd
    refine o_nil ⟨.inr hB4, ?_⟩
    (repeat first|refine xo rfl rfl (by first|exact trivial|(simp only[AllP];omega)|(simp(discharger:=omega)only[AllP,cA,cB];omega)|(simp only[AllP,cC,cD,cE,cF,cG];omega)) ?_|refine xn ?_|refine x_know rfl _ _ (some true) rfl rfl rfl ?_|refine x_know rfl _ _ (some false) rfl rfl rfl ?_|refine x_know rfl _ _ none rfl rfl rfl ?_)
    refine x_act rfl ?_
    refine o_call (num_ret _) rfl rfl rfl ?_
    rintro v w5 ⟨rfl, rfl⟩
    refine o_nil ⟨.inr hB4, ?_⟩
    (repeat first|refine xo rfl rfl (by first|exact trivial|(simp only[AllP];omega)|(simp(discharger:=omega)only[AllP,cA,cB];omega)|(simp only[AllP,cC,cD,cE,cF,cG];omega)) ?_|refine xn ?_|refine x_know rfl _ _ (some true) rfl rfl rfl ?_|refine x_know rfl _ _ (some false) rfl rfl rfl ?_|refine x_know rfl _ _ none rfl rfl rfl ?_)
    refine x_act rfl ?_
    refine o_call (refPutO gd.pi.tab (gd.pi.slots on hon) x.n hh) rfl rfl rfl ?_
    rintro v w6 ⟨rfl, o', ht⟩
    refine o_nil ⟨.inr (ht.kp.blk hbs hBd), ?_⟩
    (repeat first|refine xo rfl rfl (by first|exact trivial|(simp only[AllP];omega)|(simp(discharger:=omega)only[AllP,cA,cB];omega)|(simp only[AllP,cC,cD,cE,cF,cG];omega)) ?_|refine xn ?_|refine x_know rfl _ _ (some true) rfl rfl rfl ?_|refine x_know rfl _ _ (some false) rfl rfl rfl ?_|refine x_know rfl _ _ none rfl rfl rfl ?_)
    (repeat first|refine zA ?_|refine zB ?_|refine zC ?_|refine zD ?_|refine zE ?_|refine zg ?_|refine zo rfl rfl (by first|exact trivial|(simp only[AllP];omega)|(simp(discharger:=omega)only[AllP,cA,cB];omega)|(simp only[AllP,cC,cD,cE,cF,cG];omega)) ?_|refine zn ?_|refine zb ?_|refine ze rfl ?_|refine zr ?_|refine zk ?_|refine zT rfl rfl rfl ?_|refine zU rfl rfl rfl ?_|refine zV rfl rfl rfl ?_|refine zf rfl ?_|refine zt rfl ?_)
    exact ⟨_, rfl, by simp, (gd.turn hon ht).after⟩
  (repeat first|refine zA ?_|refine zB ?_|refine zC ?_|refine zD ?_|refine zE ?_|refine zg ?_|refine zo rfl rfl (by first|exact trivial|(simp only[AllP];omega)|(simp(discharger:=omega)only[AllP,cA,cB];omega)|(simp only[AllP,cC,cD,cE,cF,cG];omega)) ?_|refine zn ?_|refine zb ?_|refine ze rfl ?_|refine zr ?_|refine zk ?_|refine zT rfl rfl rfl ?_|refine zU rfl rfl rfl ?_|refine zV rfl rfl rfl ?_|refine zf rfl ?_|refine zt rfl ?_)
  refine r_if (p := x.d = 3) rfl (fun hd3 => ?_) (fun hd3 => ?_)
  · (repeat first|refine zA ?_|refine zB ?_|refine zC ?_|refine zD ?_|refine zE ?_|refine zg ?_|refine zo rfl rfl (by first|exact trivial|(simp only[AllP];omega)|(simp(discharger:=omega)only[AllP,cA,cB];omega)|(simp only[AllP,cC,cD,cE,cF,cG];omega)) ?_|refine zn ?_|refine zb ?_|refine ze rfl ?_|refine zr ?_|refine zk ?_|refine zT rfl rfl rfl ?_|refine zU rfl rfl rfl ?_|refine zV rfl rfl rfl ?_|refine zf rfl ?_|refine zt rfl ?_)
    refine r_seq ?_
    refine r_mix (fun w' => Blk w' bx (opC x) 93) [(0, false), (1, false), (2, false), (5, false), (6, false), (7, false), (3, true), (4, true), (8, true), (9, false), (10, false)] follows_mixed (by kernel_rfl) (by kernel_rfl) (by kernel_rfl) ((Sm.drew w2).blk hB1) ?_
    have gd := hg1.sm (Sm.drew w2)
    have hBd := (Sm.drew w2).blk hB1
    generalize ({ w2 with drawn := w2.drawn + 1 } : World) = w3 at gd hBd ⊢
    have hbs : bx ∉ slb (sl on) := fun hb => by
      have := hg.pi.dj.lt on bx (by rw [dd_sl hon]; exact hb); omega
    (repeat first|refine xo rfl rfl (by first|exact trivial|(simp only[AllP];omega)|(simp(discharger:=omega)only[AllP,cA,cB];omega)|(simp only[AllP,cC,cD,cE,cF,cG];omega)) ?_|refine xn ?_|refine x_know rfl _ _ (some true) rfl rfl rfl ?_|refine x_know rfl _ _ (some false) rfl rfl rfl ?_|refine x_know rfl _ _ none rfl rfl rfl ?_)
    refine x_load rfl rfl (fun w' h' => h'.cell rfl) rfl rfl rfl rfl ?_
    (repeat first|refine xo rfl rfl (by first|exact trivial|(simp only[AllP];omega)|(simp(discharger:=omega)only[AllP,cA,cB];omega)|(simp only[AllP,cC,cD,cE,cF,cG];omega)) ?_|refine xn ?_|refine x_know rfl _ _ (some true) rfl rfl rfl ?_|refine x_know rfl _ _ (some false) rfl rfl rfl ?_|refine x_know rfl _ _ none rfl rfl rfl ?_)
    refine x_load rfl rfl (fun w' h' => h'.cell rfl) rfl rfl rfl rfl ?_
    (repeat first|refine xo rfl rfl (by first|exact trivial|(simp only[AllP];omega)|(simp(discharger:=omega)only[AllP,cA,cB];omega)|(simp only[AllP,cC,cD,cE,cF,cG];omega)) ?_|refine xn ?_|refine x_know rfl _ _ (some true) rfl rfl rfl ?_|refine x_know rfl _ _ (some false) rfl rfl rfl ?_|refine x_know rfl _ _ none rfl rfl rfl ?_)
    refine x_act rfl ?_
    refine o_call (DelO (gd.pi.slots on hon) x.n) rfl rfl rfl ?_
    rintro v w4 ⟨rfl, hh⟩
    have hB4 := (hh.kp (gd.pi.slots on hon)).blk hbs hBd
    refine o_nil ⟨.inr hB4, ?_⟩
    (repeat first|refine xo rfl rfl (by first|exact trivial|(simp only[AllP];omega)|(simp(discharger:=omega)only[AllP,cA,cB];omega)|(simp only[AllP,cC,cD,cE,cF,cG];omega)) ?_|refine xn ?_|refine x_know rfl _ _ (some true) rfl rfl rfl ?_|refine x_know rfl _ _ (some false) rfl rfl rfl ?_|refine x_know rfl _ _ none rfl rfl rfl ?_)
    refine x_act rfl ?_
    refine o_call (num_ret _) rfl rfl rfl ?_
    rintro v w5 ⟨rfl, rfl⟩
    refine o_nil ⟨.inr hB4, ?_⟩
    (repeat first|refine xo rfl rfl (by first|exact trivial|(simp only[AllP];omega)|(simp(discharger:=omega)only[AllP,cA,cB];omega)|(simp only[AllP,cC,cD,cE,cF,cG];omega)) ?_|refine xn ?_|refine x_know rfl _ _ (some true) rfl rfl rfl ?_|refine x_know rfl _ _ (some false) rfl rfl rfl ?_|refine x_know rfl _ _ none rfl rfl rfl ?_)
    refine x_act rfl ?_
    refine o_call (refDelO gd.pi.tab (gd.pi.slots on hon) x.n hh) rfl rfl rfl ?_
    rintro v w6 ⟨rfl, o', ht⟩
    refine o_nil ⟨.inr (ht.kp.blk hbs hBd), ?_⟩
    (repeat first|refine xo rfl rfl (by first|exact trivial|(simp only[AllP];omega)|(simp(discharger:=omega)only[AllP,cA,cB];omega)|(simp only[AllP,cC,cD,cE,cF,cG];omega)) ?_|refine xn ?_|refine x_know rfl _ _ (some true) rfl rfl rfl ?_|refine x_know rfl _ _ (some false) rfl rfl rfl ?_|refine x_know rfl _ _ none rfl rfl rfl ?_)
    (repeat first|refine zA ?_|refine zB ?_|refine zC ?_|refine zD ?_|refine zE ?_|refine zg ?_|refine zo rfl rfl (by first|exact trivial|(simp only[AllP];omega)|(simp(discharger:=omega)only[AllP,cA,cB];omega)|(simp only[AllP,cC,cD,cE,cF,cG];omega)) ?_|refine zn ?_|refine zb ?_|refine ze rfl ?_|refine zr ?_|refine zk ?_|refine zT rfl rfl rfl ?_|refine zU rfl rfl rfl ?_|refine zV rfl rfl rfl ?_|refine zf rfl ?_|refine zt rfl ?_)
    exact ⟨_, rfl, by simp, (gd.turn hon ht).after⟩
  (repeat first|refine zA ?_|refine zB ?_|refine zC ?_|refine zD ?_|refine zE ?_|refine zg ?_|refine zo rfl rfl (by first|exact trivial|(simp only[AllP];omega)|(simp(discharger:=omega)only[AllP,cA,cB];omega)|(simp only[AllP,cC,cD,cE,cF,cG];omega)) ?_|refine zn ?_|refine zb ?_|refine ze rfl ?_|refine zr ?_|refine zk ?_|refine zT rfl rfl rfl ?_|refine zU rfl rfl rfl ?_|refine zV rfl rfl rfl ?_|refine zf rfl ?_|refine zt rfl ?_)
  refine r_if (p := x.d = 4) rfl (fun hd4 => ?_) (fun hd4 => ?_)
  · (repeat first|refine zA ?_|refine zB ?_|refine zC ?_|refine zD ?_|refine zE ?_|refine zg ?_|refine zo rfl rfl (by first|exact trivial|(simp only[AllP];omega)|(simp(discharger:=omega)only[AllP,cA,cB];omega)|(simp only[AllP,cC,cD,cE,cF,cG];omega)) ?_|refine zn ?_|refine zb ?_|refine ze rfl ?_|refine zr ?_|refine zk ?_|refine zT rfl rfl rfl ?_|refine zU rfl rfl rfl ?_|refine zV rfl rfl rfl ?_|refine zf rfl ?_|refine zt rfl ?_)
    refine o_load rfl hB1 rfl rfl rfl rfl rfl ?_
    (repeat first|refine zA ?_|refine zB ?_|refine zC ?_|refine zD ?_|refine zE ?_|refine zg ?_|refine zo rfl rfl (by first|exact trivial|(simp only[AllP];omega)|(simp(discharger:=omega)only[AllP,cA,cB];omega)|(simp only[AllP,cC,cD,cE,cF,cG];omega)) ?_|refine zn ?_|refine zb ?_|refine ze rfl ?_|refine zr ?_|refine zk ?_|refine zT rfl rfl rfl ?_|refine zU rfl rfl rfl ?_|refine zV rfl rfl rfl ?_|refine zf rfl ?_|refine zt rfl ?_)
    refine o_call (NextO hg1.pi.tab (hg1.pi.slots on hon) hx1.nr) rfl rfl rfl ?_
    rintro v w3 ⟨rfl, rfl⟩
    obtain ⟨na, nb, hn⟩ := nextL_tuple (el (sl on)) x.n
    rw [hn]
    (repeat first|refine zA ?_|refine zB ?_|refine zC ?_|refine zD ?_|refine zE ?_|refine zg ?_|refine zo rfl rfl (by first|exact trivial|(simp only[AllP];omega)|(simp(discharger:=omega)only[AllP,cA,cB];omega)|(simp only[AllP,cC,cD,cE,cF,cG];omega)) ?_|refine zn ?_|refine zb ?_|refine ze rfl ?_|refine zr ?_|refine zk ?_|refine zT rfl rfl rfl ?_|refine zU rfl rfl rfl ?_|refine zV rfl rfl rfl ?_|refine zf rfl ?_|refine zt rfl ?_)
    refine o_load rfl hB1 rfl rfl rfl rfl rfl ?_
    (repeat first|refine zA ?_|refine zB ?_|refine zC ?_|refine zD ?_|refine zE ?_|refine zg ?_|refine zo rfl rfl (by first|exact trivial|(simp only[AllP];omega)|(simp(discharger:=omega)only[AllP,cA,cB];omega)|(simp only[AllP,cC,cD,cE,cF,cG];omega)) ?_|refine zn ?_|refine zb ?_|refine ze rfl ?_|refine zr ?_|refine zk ?_|refine zT rfl rfl rfl ?_|refine zU rfl rfl rfl ?_|refine zV rfl rfl rfl ?_|refine zf rfl ?_|refine zt rfl ?_)
    refine o_call (refNextO (hg1.pi.slots on hon) x.n) rfl rfl rfl ?_
    rintro v w4 ⟨rfl, rfl⟩
    rw [hn]
    (repeat first|refine zA ?_|refine zB ?_|refine zC ?_|refine zD ?_|refine zE ?_|refine zg ?_|refine zo rfl rfl (by first|exact trivial|(simp only[AllP];omega)|(simp(discharger:=omega)only[AllP,cA,cB];omega)|(simp only[AllP,cC,cD,cE,cF,cG];omega)) ?_|refine zn ?_|refine zb ?_|refine ze rfl ?_|refine zr ?_|refine zk ?_|refine zT rfl rfl rfl ?_|refine zU rfl rfl rfl ?_|refine zV rfl rfl rfl ?_|refine zf rfl ?_|refine zt rfl ?_)
    have hso := hg1.pi.slots on hon
    refine r_seq ?_
    refine r_quietS follows_mixed (by kernel_rfl) ?_
    (repeat first|refine yo rfl rfl (by first|exact trivial|(simp only[AllP];omega)|(simp(discharger:=omega)only[AllP,cA,cB];omega)|(simp only[AllP,cC,cD,cE,cF,cG];omega)) ?_|refine yn ?_|refine q_know _ _ (some true) rfl rfl rfl ?_|refine q_know _ _ (some false) rfl rfl rfl ?_|refine q_know _ _ none rfl rfl rfl ?_)
    refine q_load rfl (fun w hs => (hs.blk hB1).cell rfl) rfl rfl rfl rfl ?_
    (repeat first|refine yo rfl rfl (by first|exact trivial|(simp only[AllP];omega)|(simp(discharger:=omega)only[AllP,cA,cB];omega)|(simp only[AllP,cC,cD,cE,cF,cG];omega)) ?_|refine yn ?_|refine q_know _ _ (some true) rfl rfl rfl ?_|refine q_know _ _ (some false) rfl rfl rfl ?_|refine q_know _ _ none rfl rfl rfl ?_)
    refine q_call _ (q_of fun w1 hs => HasO (hso.kp (hs.kp []) (by simp)) x.n) Tryd.call15 rfl rfl rfl ?_
    (repeat first|refine yo rfl rfl (by first|exact trivial|(simp only[AllP];omega)|(simp(discharger:=omega)only[AllP,cA,cB];omega)|(simp only[AllP,cC,cD,cE,cF,cG];omega)) ?_|refine yn ?_|refine q_know _ _ (some true) rfl rfl rfl ?_|refine q_know _ _ (some false) rfl rfl rfl ?_|refine q_know _ _ none rfl rfl rfl ?_)
    refine q_load rfl (fun w hs => (hs.blk hB1).cell rfl) rfl rfl rfl rfl ?_
    (repeat first|refine yo rfl rfl (by first|exact trivial|(simp only[AllP];omega)|(simp(discharger:=omega)only[AllP,cA,cB];omega)|(simp only[AllP,cC,cD,cE,cF,cG];omega)) ?_|refine yn ?_|refine q_know _ _ (some true) rfl rfl rfl ?_|refine q_know _ _ (some false) rfl rfl rfl ?_|refine q_know _ _ none rfl rfl rfl ?_)
    refine q_call _ (q_of fun w1 hs => refHasO (hso.kp (hs.kp []) (by simp)) x.n) Tryd.call83 rfl rfl rfl ?_
    (repeat first|refine yo rfl rfl (by first|exact trivial|(simp only[AllP];omega)|(simp(discharger:=omega)only[AllP,cA,cB];omega)|(simp only[AllP,cC,cD,cE,cF,cG];omega)) ?_|refine yn ?_|refine q_know _ _ (some true) rfl rfl rfl ?_|refine q_know _ _ (some false) rfl rfl rfl ?_|refine q_know _ _ none rfl rfl rfl ?_)
    refine q_is true 9 true rfl rfl rfl (by simp) ?_
    (repeat first|refine yo rfl rfl (by first|exact trivial|(simp only[AllP];omega)|(simp(discharger:=omega)only[AllP,cA,cB];omega)|(simp only[AllP,cC,cD,cE,cF,cG];omega)) ?_|refine yn ?_|refine q_know _ _ (some true) rfl rfl rfl ?_|refine q_know _ _ (some false) rfl rfl rfl ?_|refine q_know _ _ none rfl rfl rfl ?_)
    refine q_is true 14 true rfl rfl rfl (by simp) ?_
    (repeat first|refine yo rfl rfl (by first|exact trivial|(simp only[AllP];omega)|(simp(discharger:=omega)only[AllP,cA,cB];omega)|(simp only[AllP,cC,cD,cE,cF,cG];omega)) ?_|refine yn ?_|refine q_know _ _ (some true) rfl rfl rfl ?_|refine q_know _ _ (some false) rfl rfl rfl ?_|refine q_know _ _ none rfl rfl rfl ?_)
    refine q_is true 19 true rfl rfl rfl (by simp) ?_
    (repeat first|refine yo rfl rfl (by first|exact trivial|(simp only[AllP];omega)|(simp(discharger:=omega)only[AllP,cA,cB];omega)|(simp only[AllP,cC,cD,cE,cF,cG];omega)) ?_|refine yn ?_|refine q_know _ _ (some true) rfl rfl rfl ?_|refine q_know _ _ (some false) rfl rfl rfl ?_|refine q_know _ _ none rfl rfl rfl ?_)
    refine q_call _ (q_of fun w1 hs => LenO (hso.kp (hs.kp []) (by simp))) Tryd.call18 rfl rfl rfl ?_
    (repeat first|refine yo rfl rfl (by first|exact trivial|(simp only[AllP];omega)|(simp(discharger:=omega)only[AllP,cA,cB];omega)|(simp only[AllP,cC,cD,cE,cF,cG];omega)) ?_|refine yn ?_|refine q_know _ _ (some true) rfl rfl rfl ?_|refine q_know _ _ (some false) rfl rfl rfl ?_|refine q_know _ _ none rfl rfl rfl ?_)
    refine q_call _ (q_of fun w1 hs => refLenO (hso.kp (hs.kp []) (by simp))) Tryd.call56 rfl rfl rfl ?_
    (repeat first|refine yo rfl rfl (by first|exact trivial|(simp only[AllP];omega)|(simp(discharger:=omega)only[AllP,cA,cB];omega)|(simp only[AllP,cC,cD,cE,cF,cG];omega)) ?_|refine yn ?_|refine q_know _ _ (some true) rfl rfl rfl ?_|refine q_know _ _ (some false) rfl rfl rfl ?_|refine q_know _ _ none rfl rfl rfl ?_)
    intro w5 hs5
    (repeat first|refine zA ?_|refine zB ?_|refine zC ?_|refine zD ?_|refine zE ?_|refine zg ?_|refine zo rfl rfl (by first|exact trivial|(simp only[AllP];omega)|(simp(discharger:=omega)only[AllP,cA,cB];omega)|(simp only[AllP,cC,cD,cE,cF,cG];omega)) ?_|refine zn ?_|refine zb ?_|refine ze rfl ?_|refine zr ?_|refine zk ?_|refine zT rfl rfl rfl ?_|refine zU rfl rfl rfl ?_|refine zV rfl rfl rfl ?_|refine zf rfl ?_|refine zt rfl ?_)
    exact ⟨_, rfl, by simp, (hg1.sm hs5).after⟩
  (repeat first|refine zA ?_|refine zB ?_|refine zC ?_|refine zD ?_|refine zE ?_|refine zg ?_|refine zo rfl rfl (by first|exact trivial|(simp only[AllP];omega)|(simp(discharger:=omega)only[AllP,cA,cB];omega)|(simp only[AllP,cC,cD,cE,cF,cG];omega)) ?_|refine zn ?_|refine zb ?_|refine ze rfl ?_|refine zr ?_|refine zk ?_|refine zT rfl rfl rfl ?_|refine zU rfl rfl rfl ?_|refine zV rfl rfl rfl ?_|refine zf rfl ?_|refine zt rfl ?_)
  refine r_if (p := x.d = 13) rfl (fun hd13 => ?_) (fun hd13 => ?_)
  · (repeat first|refine zA ?_|refine zB ?_|refine zC ?_|refine zD ?_|refine zE ?_|refine zg ?_|refine zo rfl rfl (by first|exact trivial|(simp only[AllP];omega)|(simp(discharger:=omega)only[AllP,cA,cB];omega)|(simp only[AllP,cC,cD,cE,cF,cG];omega)) ?_|refine zn ?_|refine zb ?_|refine ze rfl ?_|refine zr ?_|refine zk ?_|refine zT rfl rfl rfl ?_|refine zU rfl rfl rfl ?_|refine zV rfl rfl rfl ?_|refine zf rfl ?_|refine zt rfl ?_)
    refine o_store (b := W) (off := on) (v := .pointer none) (c := none) ?_ hg1.pi.hdr (by rw [rowL_len]; omega) rfl rfl rfl rfl rfl rfl ?_
    · show Value.pointer (some ⟨W, 0 + on, none⟩) = _
      rw [Nat.zero_add]
    intro w5 hu5
    (repeat first|refine zA ?_|refine zB ?_|refine zC ?_|refine zD ?_|refine zE ?_|refine zg ?_|refine zo rfl rfl (by first|exact trivial|(simp only[AllP];omega)|(simp(discharger:=omega)only[AllP,cA,cB];omega)|(simp only[AllP,cC,cD,cE,cF,cG];omega)) ?_|refine zn ?_|refine zb ?_|refine ze rfl ?_|refine zr ?_|refine zk ?_|refine zT rfl rfl rfl ?_|refine zU rfl rfl rfl ?_|refine zV rfl rfl rfl ?_|refine zf rfl ?_|refine zt rfl ?_)
    refine o_store (b := W) (off := 4 + on) (v := .pointer none) (c := none) rfl hu5.blk (by rw [List.length_set, rowL_len]; omega) rfl rfl rfl rfl rfl rfl ?_
    intro w6 hu6
    (repeat first|refine zA ?_|refine zB ?_|refine zC ?_|refine zD ?_|refine zE ?_|refine zg ?_|refine zo rfl rfl (by first|exact trivial|(simp only[AllP];omega)|(simp(discharger:=omega)only[AllP,cA,cB];omega)|(simp only[AllP,cC,cD,cE,cF,cG];omega)) ?_|refine zn ?_|refine zb ?_|refine ze rfl ?_|refine zr ?_|refine zk ?_|refine zT rfl rfl rfl ?_|refine zU rfl rfl rfl ?_|refine zV rfl rfl rfl ?_|refine zf rfl ?_|refine zt rfl ?_)
    exact ⟨_, rfl, rfl, (hg1.place (s' := none) hon SlAt.none (by simp [slb]) ((hu5.kp [W] (.inl (by simp))).trans (hu6.kp [W] (.inl (by simp)))) hu6.blk).after⟩
  · (repeat first|refine zA ?_|refine zB ?_|refine zC ?_|refine zD ?_|refine zE ?_|refine zg ?_|refine zo rfl rfl (by first|exact trivial|(simp only[AllP];omega)|(simp(discharger:=omega)only[AllP,cA,cB];omega)|(simp only[AllP,cC,cD,cE,cF,cG];omega)) ?_|refine zn ?_|refine zb ?_|refine ze rfl ?_|refine zr ?_|refine zk ?_|refine zT rfl rfl rfl ?_|refine zU rfl rfl rfl ?_|refine zV rfl rfl rfl ?_|refine zf rfl ?_|refine zt rfl ?_)
    refine o_loadA (vs := opC x) rfl (fun j v hv => ?_) rfl rfl rfl rfl rfl rfl ?_
    · rw [Nat.zero_add]; exact hB1.cell hv
    (repeat first|refine zA ?_|refine zB ?_|refine zC ?_|refine zD ?_|refine zE ?_|refine zg ?_|refine zo rfl rfl (by first|exact trivial|(simp only[AllP];omega)|(simp(discharger:=omega)only[AllP,cA,cB];omega)|(simp only[AllP,cC,cD,cE,cF,cG];omega)) ?_|refine zn ?_|refine zb ?_|refine ze rfl ?_|refine zr ?_|refine zk ?_|refine zT rfl rfl rfl ?_|refine zU rfl rfl rfl ?_|refine zV rfl rfl rfl ?_|refine zf rfl ?_|refine zt rfl ?_)
    refine o_call (more_ret hg1 hx1 hon hc1 hc2) rfl rfl rfl ?_
    rintro v w3 ⟨rfl, ha⟩
    (repeat first|refine zA ?_|refine zB ?_|refine zC ?_|refine zD ?_|refine zE ?_|refine zg ?_|refine zo rfl rfl (by first|exact trivial|(simp only[AllP];omega)|(simp(discharger:=omega)only[AllP,cA,cB];omega)|(simp only[AllP,cC,cD,cE,cF,cG];omega)) ?_|refine zn ?_|refine zb ?_|refine ze rfl ?_|refine zr ?_|refine zk ?_|refine zT rfl rfl rfl ?_|refine zU rfl rfl rfl ?_|refine zV rfl rfl rfl ?_|refine zf rfl ?_|refine zt rfl ?_)
    exact ⟨_, rfl, rfl, ha⟩
end
end Go.Vc
