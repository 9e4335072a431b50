/- order: Flags: which variables are raced upon. -/
import Derived.Test.YtkgjibhbhddckaaQClONil40
namespace Go.Vc
open Go Go.Proofs
set_option maxRecDepth 10000
variable {w : World}
/-- a flag: its variable, where -/
abbrev F2 := Int × Int
abbrev flgC (x : F2) : List Value := [I x.1, I x.2]
def flgsC (l : List F2) : List Value := l.flatMap flgC
theorem flgsC_len (l : List F2) : (flgsC l).length = l.length * 2 := flC_len (f := flgC) (m := 2) (fun _ => rfl) l
theorem flgsC_snoc (l : List F2) (x : F2) : flgsC (l ++ [x]) = flgsC l ++ flgC x := by simp [flgsC]
theorem flgsC_get {l : List F2} {i : Nat} {x : F2} (hx : l[i]? = some x) {j : Nat} {v : Value} (hv : (flgC x)[j]? = some v) : (flgsC l)[i * 2 + j]? = some v := flC_get (f := flgC) (m := 2) (fun _ => rfl) hx hv
theorem Flags1_ret (x : F2) {b6 : Nat} {y : P3} (hb : Blk w b6 (pairC y) 53) : Ret Try.prog 66 [.agg ⟨flgC x⟩, ptr b6] w (fun r w' => r = .bool (decide (x.1 = y.1)) ∧ Kp [] w w') := by
  refine enter Try.call66 Try.func66 rfl rfl rfl rfl ?_
  (repeat first|refine zA ?_|refine zB ?_|refine zC ?_|refine zD ?_|refine zE ?_|refine zg ?_|refine zo rfl rfl (by first|exact trivial|(simp only[AllP];omega)|(simp(discharger:=omega)only[AllP,cA,cB];omega)|(simp only[AllP,cC,cD,cE,cF,cG];omega)) ?_|refine zn ?_|refine zb ?_|refine ze rfl ?_|refine zr ?_|refine zk ?_|refine zT rfl rfl rfl ?_|refine zU rfl rfl rfl ?_|refine zV rfl rfl rfl ?_|refine zf rfl ?_|refine zt rfl ?_)
  refine o_box rfl rfl rfl ?_
  intro bx w1 hbx hu1
  have k1 : Kp [] w w1 := hu1.kp [] (.inr (by omega))
  have hB1 : Blk w1 bx (flgC x) 68 := hu1.blk
  (repeat first|refine zA ?_|refine zB ?_|refine zC ?_|refine zD ?_|refine zE ?_|refine zg ?_|refine zo rfl rfl (by first|exact trivial|(simp only[AllP];omega)|(simp(discharger:=omega)only[AllP,cA,cB];omega)|(simp only[AllP,cC,cD,cE,cF,cG];omega)) ?_|refine zn ?_|refine zb ?_|refine ze rfl ?_|refine zr ?_|refine zk ?_|refine zT rfl rfl rfl ?_|refine zU rfl rfl rfl ?_|refine zV rfl rfl rfl ?_|refine zf rfl ?_|refine zt rfl ?_)
  refine o_load (v := I x.1) rfl hB1 rfl rfl rfl rfl rfl ?_
  (repeat first|refine zA ?_|refine zB ?_|refine zC ?_|refine zD ?_|refine zE ?_|refine zg ?_|refine zo rfl rfl (by first|exact trivial|(simp only[AllP];omega)|(simp(discharger:=omega)only[AllP,cA,cB];omega)|(simp only[AllP,cC,cD,cE,cF,cG];omega)) ?_|refine zn ?_|refine zb ?_|refine ze rfl ?_|refine zr ?_|refine zk ?_|refine zT rfl rfl rfl ?_|refine zU rfl rfl rfl ?_|refine zV rfl rfl rfl ?_|refine zf rfl ?_|refine zt rfl ?_)
  refine o_load (v := I y.1) rfl (k1.blk (by simp) hb) rfl rfl rfl rfl rfl ?_
  (repeat first|refine zA ?_|refine zB ?_|refine zC ?_|refine zD ?_|refine zE ?_|refine zg ?_|refine zo rfl rfl (by first|exact trivial|(simp only[AllP];omega)|(simp(discharger:=omega)only[AllP,cA,cB];omega)|(simp only[AllP,cC,cD,cE,cF,cG];omega)) ?_|refine zn ?_|refine zb ?_|refine ze rfl ?_|refine zr ?_|refine zk ?_|refine zT rfl rfl rfl ?_|refine zU rfl rfl rfl ?_|refine zV rfl rfl rfl ?_|refine zf rfl ?_|refine zt rfl ?_)
  exact ⟨_, rfl, rfl, k1⟩
theorem IndexFlag_ret {b6 : Nat} {y : P3} (hb : Blk w b6 (pairC y) 53) {ad : Option Addr} {l : List F2} {cap : Nat} (hr : ReadS w ad (flgsC l)) (hl : l.length ≤ 4611686018427387904) :
    Ret Try.prog 89 [.slice ad l.length cap, .func (.func 66) #[] #[ptr b6]] w (fun v w' => ∃ r : Int, v = I r ∧ (0 ≤ r ↔ l.any (fun x => decide (x.1 = y.1)) = true) ∧ Kp [] w w') := by
  refine enter Try.call89 Try.func89 rfl rfl rfl rfl ?_
  (repeat first|refine zA ?_|refine zB ?_|refine zC ?_|refine zD ?_|refine zE ?_|refine zg ?_|refine zo rfl rfl (by first|exact trivial|(simp only[AllP];omega)|(simp(discharger:=omega)only[AllP,cA,cB];omega)|(simp only[AllP,cC,cD,cE,cF,cG];omega)) ?_|refine zn ?_|refine zb ?_|refine ze rfl ?_|refine zr ?_|refine zk ?_|refine zT rfl rfl rfl ?_|refine zU rfl rfl rfl ?_|refine zV rfl rfl rfl ?_|refine zf rfl ?_|refine zt rfl ?_)
  refine r_loop (α := Nat) [0, 1, 7, 8] (fun j => [.slice ad l.length cap, .func (.func 66) #[] #[ptr b6], I l.length, I j]) (fun j w1 => Kp [] w w1 ∧ j ≤ l.length ∧ (l.take j).any (fun x => decide (x.1 = y.1)) = false) (fun j => l.length - j) 0 rfl ⟨Kp.refl _ _, by omega, by simp⟩ ?_
  rintro j e w1 ⟨kk, hj, hany⟩
  (repeat first|refine zA ?_|refine zB ?_|refine zC ?_|refine zD ?_|refine zE ?_|refine zg ?_|refine zo rfl rfl (by first|exact trivial|(simp only[AllP];omega)|(simp(discharger:=omega)only[AllP,cA,cB];omega)|(simp only[AllP,cC,cD,cE,cF,cG];omega)) ?_|refine zn ?_|refine zb ?_|refine ze rfl ?_|refine zr ?_|refine zk ?_|refine zT rfl rfl rfl ?_|refine zU rfl rfl rfl ?_|refine zV rfl rfl rfl ?_|refine zf rfl ?_|refine zt rfl ?_)
  refine r_if rfl (fun hc => ?_) (fun hc => ?_)
  · have hlt : j < l.length := by omega
    obtain ⟨x, hx⟩ : ∃ x, l[j]? = some x := ⟨_, List.getElem?_eq_getElem hlt⟩
    obtain ⟨b, off, rfl, _, hcell⟩ := (hr.kp kk (by simp)).at_ (by rw [flgsC_len]; omega)
    (repeat first|refine zA ?_|refine zB ?_|refine zC ?_|refine zD ?_|refine zE ?_|refine zg ?_|refine zo rfl rfl (by first|exact trivial|(simp only[AllP];omega)|(simp(discharger:=omega)only[AllP,cA,cB];omega)|(simp only[AllP,cC,cD,cE,cF,cG];omega)) ?_|refine zn ?_|refine zb ?_|refine ze rfl ?_|refine zr ?_|refine zk ?_|refine zT rfl rfl rfl ?_|refine zU rfl rfl rfl ?_|refine zV rfl rfl rfl ?_|refine zf rfl ?_|refine zt rfl ?_)
    refine o_loadA (b := b) (off := off + j * 2) (vs := flgC x) rfl (fun i v hv => by rw [Nat.add_assoc]; exact hcell _ _ (flgsC_get hx hv)) rfl rfl rfl rfl rfl rfl ?_
    (repeat first|refine zA ?_|refine zB ?_|refine zC ?_|refine zD ?_|refine zE ?_|refine zg ?_|refine zo rfl rfl (by first|exact trivial|(simp only[AllP];omega)|(simp(discharger:=omega)only[AllP,cA,cB];omega)|(simp only[AllP,cC,cD,cE,cF,cG];omega)) ?_|refine zn ?_|refine zb ?_|refine ze rfl ?_|refine zr ?_|refine zk ?_|refine zT rfl rfl rfl ?_|refine zU rfl rfl rfl ?_|refine zV rfl rfl rfl ?_|refine zf rfl ?_|refine zt rfl ?_)
    refine o_callv (first := #[]) (cap := #[ptr b6]) (Flags1_ret x (kk.blk (by simp) hb)) rfl rfl rfl rfl ?_
    rintro v w2 ⟨rfl, k2⟩
    (repeat first|refine zA ?_|refine zB ?_|refine zC ?_|refine zD ?_|refine zE ?_|refine zg ?_|refine zo rfl rfl (by first|exact trivial|(simp only[AllP];omega)|(simp(discharger:=omega)only[AllP,cA,cB];omega)|(simp only[AllP,cC,cD,cE,cF,cG];omega)) ?_|refine zn ?_|refine zb ?_|refine ze rfl ?_|refine zr ?_|refine zk ?_|refine zT rfl rfl rfl ?_|refine zU rfl rfl rfl ?_|refine zV rfl rfl rfl ?_|refine zf rfl ?_|refine zt rfl ?_)
    by_cases hp : x.1 = y.1
    · rw [decide_eq_true hp]
      (repeat first|refine zA ?_|refine zB ?_|refine zC ?_|refine zD ?_|refine zE ?_|refine zg ?_|refine zo rfl rfl (by first|exact trivial|(simp only[AllP];omega)|(simp(discharger:=omega)only[AllP,cA,cB];omega)|(simp only[AllP,cC,cD,cE,cF,cG];omega)) ?_|refine zn ?_|refine zb ?_|refine ze rfl ?_|refine zr ?_|refine zk ?_|refine zT rfl rfl rfl ?_|refine zU rfl rfl rfl ?_|refine zV rfl rfl rfl ?_|refine zf rfl ?_|refine zt rfl ?_)
      exact ⟨_, rfl, j, rfl, ⟨fun _ => List.any_eq_true.2 ⟨x, List.mem_of_getElem? hx, decide_eq_true hp⟩, fun _ => by omega⟩, kk.trans k2⟩
    · rw [decide_eq_false hp]
      (repeat first|refine zA ?_|refine zB ?_|refine zC ?_|refine zD ?_|refine zE ?_|refine zg ?_|refine zo rfl rfl (by first|exact trivial|(simp only[AllP];omega)|(simp(discharger:=omega)only[AllP,cA,cB];omega)|(simp only[AllP,cC,cD,cE,cF,cG];omega)) ?_|refine zn ?_|refine zb ?_|refine ze rfl ?_|refine zr ?_|refine zk ?_|refine zT rfl rfl rfl ?_|refine zU rfl rfl rfl ?_|refine zV rfl rfl rfl ?_|refine zf rfl ?_|refine zt rfl ?_)
      refine ⟨j + 1, rfl, ⟨kk.trans k2, by omega, ?_⟩, by omega⟩
      rw [List.take_add_one, hx, List.any_append, hany]
      simp [hp]
  · (repeat first|refine zA ?_|refine zB ?_|refine zC ?_|refine zD ?_|refine zE ?_|refine zg ?_|refine zo rfl rfl (by first|exact trivial|(simp only[AllP];omega)|(simp(discharger:=omega)only[AllP,cA,cB];omega)|(simp only[AllP,cC,cD,cE,cF,cG];omega)) ?_|refine zn ?_|refine zb ?_|refine ze rfl ?_|refine zr ?_|refine zk ?_|refine zT rfl rfl rfl ?_|refine zU rfl rfl rfl ?_|refine zV rfl rfl rfl ?_|refine zf rfl ?_|refine zt rfl ?_)
    have : j = l.length := by omega
    subst this
    rw [List.take_length] at hany
    exact ⟨_, rfl, -1, rfl, ⟨fun h => by omega, fun h => by rw [hany] at h; cases h⟩, kk⟩
theorem ContainsFlag_ret {b6 : Nat} {y : P3} (hb : Blk w b6 (pairC y) 53) {ad : Option Addr} {l : List F2} {cap : Nat} (hr : ReadS w ad (flgsC l)) (hl : l.length ≤ 4611686018427387904) :
    Ret Try.prog 65 [.slice ad l.length cap, .func (.func 66) #[] #[ptr b6]] w (fun v w' => v = .bool (l.any (fun x => decide (x.1 = y.1))) ∧ Kp [] w w') := by
  refine enter Try.call65 Try.func65 rfl rfl rfl rfl ?_
  (repeat first|refine zA ?_|refine zB ?_|refine zC ?_|refine zD ?_|refine zE ?_|refine zg ?_|refine zo rfl rfl (by first|exact trivial|(simp only[AllP];omega)|(simp(discharger:=omega)only[AllP,cA,cB];omega)|(simp only[AllP,cC,cD,cE,cF,cG];omega)) ?_|refine zn ?_|refine zb ?_|refine ze rfl ?_|refine zr ?_|refine zk ?_|refine zT rfl rfl rfl ?_|refine zU rfl rfl rfl ?_|refine zV rfl rfl rfl ?_|refine zf rfl ?_|refine zt rfl ?_)
  refine o_call (IndexFlag_ret hb hr hl) rfl rfl rfl ?_
  rintro v w1 ⟨r, rfl, hq, kk⟩
  (repeat first|refine zA ?_|refine zB ?_|refine zC ?_|refine zD ?_|refine zE ?_|refine zg ?_|refine zo rfl rfl (by first|exact trivial|(simp only[AllP];omega)|(simp(discharger:=omega)only[AllP,cA,cB];omega)|(simp only[AllP,cC,cD,cE,cF,cG];omega)) ?_|refine zn ?_|refine zb ?_|refine ze rfl ?_|refine zr ?_|refine zk ?_|refine zT rfl rfl rfl ?_|refine zU rfl rfl rfl ?_|refine zV rfl rfl rfl ?_|refine zf rfl ?_|refine zt rfl ?_)
  refine ⟨_, rfl, ?_, kk⟩
  congr 1
  cases ha : l.any (fun x => decide (x.1 = y.1)) with
  | true => have := hq.2 ha; simpa using this
  | false =>
    have : ¬ 0 ≤ r := fun h0 => by have := hq.1 h0; rw [ha] at this; cases this
    simp; omega
/-- the comparison that the sort is given -/
theorem Flags2_ret (x y : F2) (hx : 0 ≤ x.1 ∧ x.1 ≤ 1048576) (hy : 0 ≤ y.1 ∧ y.1 ≤ 1048576) : Ret Try.prog 68 [.agg ⟨flgC x⟩, .agg ⟨flgC y⟩] w (fun r w' => r = I (x.1 - y.1) ∧ Kp [] w w') := by
  refine enter Try.call68 Try.func68 rfl rfl rfl rfl ?_
  (repeat first|refine zA ?_|refine zB ?_|refine zC ?_|refine zD ?_|refine zE ?_|refine zg ?_|refine zo rfl rfl (by first|exact trivial|(simp only[AllP];omega)|(simp(discharger:=omega)only[AllP,cA,cB];omega)|(simp only[AllP,cC,cD,cE,cF,cG];omega)) ?_|refine zn ?_|refine zb ?_|refine ze rfl ?_|refine zr ?_|refine zk ?_|refine zT rfl rfl rfl ?_|refine zU rfl rfl rfl ?_|refine zV rfl rfl rfl ?_|refine zf rfl ?_|refine zt rfl ?_)
  refine o_box rfl rfl rfl ?_
  intro b1 w1 hb1 hu1
  have k1 : Kp [] w w1 := hu1.kp [] (.inr (by omega))
  have hB1 : Blk w1 b1 (flgC x) 68 := hu1.blk
  (repeat first|refine zA ?_|refine zB ?_|refine zC ?_|refine zD ?_|refine zE ?_|refine zg ?_|refine zo rfl rfl (by first|exact trivial|(simp only[AllP];omega)|(simp(discharger:=omega)only[AllP,cA,cB];omega)|(simp only[AllP,cC,cD,cE,cF,cG];omega)) ?_|refine zn ?_|refine zb ?_|refine ze rfl ?_|refine zr ?_|refine zk ?_|refine zT rfl rfl rfl ?_|refine zU rfl rfl rfl ?_|refine zV rfl rfl rfl ?_|refine zf rfl ?_|refine zt rfl ?_)
  refine o_box rfl rfl rfl ?_
  intro b2 w2 hb2 hu2
  have k2 : Kp [] w1 w2 := hu2.kp [] (.inr (by omega))
  have hB2 : Blk w2 b2 (flgC y) 68 := hu2.blk
  have hB1 := k2.blk (by simp) hB1
  (repeat first|refine zA ?_|refine zB ?_|refine zC ?_|refine zD ?_|refine zE ?_|refine zg ?_|refine zo rfl rfl (by first|exact trivial|(simp only[AllP];omega)|(simp(discharger:=omega)only[AllP,cA,cB];omega)|(simp only[AllP,cC,cD,cE,cF,cG];omega)) ?_|refine zn ?_|refine zb ?_|refine ze rfl ?_|refine zr ?_|refine zk ?_|refine zT rfl rfl rfl ?_|refine zU rfl rfl rfl ?_|refine zV rfl rfl rfl ?_|refine zf rfl ?_|refine zt rfl ?_)
  refine o_load (v := I x.1) rfl hB1 rfl rfl rfl rfl rfl ?_
  (repeat first|refine zA ?_|refine zB ?_|refine zC ?_|refine zD ?_|refine zE ?_|refine zg ?_|refine zo rfl rfl (by first|exact trivial|(simp only[AllP];omega)|(simp(discharger:=omega)only[AllP,cA,cB];omega)|(simp only[AllP,cC,cD,cE,cF,cG];omega)) ?_|refine zn ?_|refine zb ?_|refine ze rfl ?_|refine zr ?_|refine zk ?_|refine zT rfl rfl rfl ?_|refine zU rfl rfl rfl ?_|refine zV rfl rfl rfl ?_|refine zf rfl ?_|refine zt rfl ?_)
  refine o_load (v := I y.1) rfl hB2 rfl rfl rfl rfl rfl ?_
  (repeat first|refine zA ?_|refine zB ?_|refine zC ?_|refine zD ?_|refine zE ?_|refine zg ?_|refine zo rfl rfl (by first|exact trivial|(simp only[AllP];omega)|(simp(discharger:=omega)only[AllP,cA,cB];omega)|(simp only[AllP,cC,cD,cE,cF,cG];omega)) ?_|refine zn ?_|refine zb ?_|refine ze rfl ?_|refine zr ?_|refine zk ?_|refine zT rfl rfl rfl ?_|refine zU rfl rfl rfl ?_|refine zV rfl rfl rfl ?_|refine zf rfl ?_|refine zt rfl ?_)
  exact ⟨_, rfl, rfl, k1.trans k2⟩
end Go.Vc
/- order: flags sorted: the plain law. -/
namespace Go.Vc
open Go Go.Proofs
/-- the flags as the races tell them -/
def flgGo (n : Int) : List F2 → List P3 → List F2
  | acc, [] => acc
  | acc, x :: r => if n ≤ (x.2.2 : Int) then acc else flgGo n (if acc.any (fun y => decide (y.1 = x.1)) then acc else acc ++ [(x.1, (x.2.2 : Int))]) r
def insF (x : F2) : List F2 → List F2
  | [] => [x]
  | y :: r => if x.1 < y.1 then x :: y :: r else y :: insF x r
/-- .. kept sorted -/
def refGo (n : Int) : List F2 → List P3 → List F2
  | acc, [] => acc
  | acc, x :: r => if n ≤ (x.2.2 : Int) then acc else refGo n (if acc.any (fun y => decide (y.1 = x.1)) then acc else insF (x.1, (x.2.2 : Int)) acc) r
noncomputable def flagsV (E : List Ev) (R : List Int) (n : Int) : List F2 := refGo n [] (racesN E R E.length)
theorem insF_perm (x : F2) : ∀ l, (insF x l).Perm (x :: l)
  | [] => .refl _
  | y :: r => by
    unfold insF
    split
    · exact .refl _
    · exact ((insF_perm x r).cons y).trans (.swap x y r)
theorem insF_mem {x z : F2} {l : List F2} : z ∈ insF x l ↔ z = x ∨ z ∈ l := by
  rw [(insF_perm x l).mem_iff]; simp
theorem insF_sorted {x : F2} : ∀ {l : List F2}, l.Pairwise (fun a b => a.1 < b.1) → (∀ y ∈ l, y.1 ≠ x.1) → (insF x l).Pairwise (fun a b => a.1 < b.1)
  | [], _, _ => by simp [insF]
  | y :: r, h, hn => by
    rw [List.pairwise_cons] at h
    unfold insF
    split
    · rename_i hlt
      refine List.pairwise_cons.2 ⟨fun z hz => ?_, List.pairwise_cons.2 h⟩
      rcases List.mem_cons.1 hz with rfl | hz
      · exact hlt
      · have := h.1 z hz; omega
    · rename_i hlt
      have := hn y (by simp)
      refine List.pairwise_cons.2 ⟨fun z hz => ?_, insF_sorted h.2 (fun z hz => hn z (by simp [hz]))⟩
      rcases insF_mem.1 hz with rfl | hz
      · omega
      · exact h.1 z hz
theorem any_false {l : List F2} {v : Int} (h : l.any (fun y => decide (y.1 = v)) = false) : ∀ y ∈ l, y.1 ≠ v := fun y hy e => by
  have := List.any_eq_false.1 h y hy
  simp [e] at this
theorem refGo_sorted (n : Int) : ∀ (L : List P3) (acc : List F2), acc.Pairwise (fun a b => a.1 < b.1) → (refGo n acc L).Pairwise (fun a b => a.1 < b.1)
  | [], _, h => h
  | x :: r, acc, h => by
    unfold refGo
    split
    · exact h
    · cases ha : acc.any (fun y => decide (y.1 = x.1)) with
      | true => exact refGo_sorted n r acc h
      | false => exact refGo_sorted n r _ (insF_sorted h (any_false ha))
theorem flgGo_perm (n : Int) : ∀ (L : List P3) (a b : List F2), a.Perm b → (flgGo n a L).Perm (refGo n b L)
  | [], _, _, h => h
  | x :: r, a, b, h => by
    unfold flgGo refGo
    have e : a.any (fun y => decide (y.1 = x.1)) = b.any (fun y => decide (y.1 = x.1)) := h.any_eq
    rw [e]
    split
    · exact h
    · cases hb : b.any (fun y => decide (y.1 = x.1)) with
      | true => exact flgGo_perm n r a b h
      | false => exact flgGo_perm n r _ _ ((h.append_right _).trans ((List.perm_append_comm (l₁ := b)).trans (insF_perm _ b).symm))
theorem sorted_eq : ∀ {l m : List F2}, l.Perm m → l.Pairwise (fun a b => a.1 ≤ b.1) → m.Pairwise (fun a b => a.1 < b.1) → l = m
  | [], m, h, _, _ => h.nil_eq
  | x :: r, [], h, _, _ => absurd h.symm.nil_eq (by simp)
  | x :: r, y :: s, h, hl, hm => by
    rw [List.pairwise_cons] at hl hm
    have e : x = y := by
      have hx : x ∈ y :: s := h.mem_iff.1 (by simp)
      have hy : y ∈ x :: r := h.mem_iff.2 (by simp)
      rcases List.mem_cons.1 hx with e | hx
      · exact e
      rcases List.mem_cons.1 hy with e | hy
      · exact e.symm
      have h1 := hm.1 x hx
      have h2 := hl.1 y hy
      omega
    subst e
    rw [sorted_eq (h.cons_inv) hl.2 hm.2]
theorem flags_sorted {E : List Ev} {R : List Int} {n : Int} {l : List F2} (h : (flgGo n [] (racesN E R E.length)).Perm l) (hs : l.Pairwise (fun a b => a.1 ≤ b.1)) : l = flagsV E R n :=
  sorted_eq (h.symm.trans (flgGo_perm n _ [] [] (.refl _))) hs (refGo_sorted n _ [] .nil)
theorem flgGo_le (n : Int) : ∀ (L : List P3) (a : List F2), (flgGo n a L).length ≤ a.length + L.length
  | [], _ => by simp [flgGo]
  | x :: r, a => by
    unfold flgGo
    split
    · simp
    · split
      · have := flgGo_le n r a; simp; omega
      · have := flgGo_le n r (a ++ [(x.1, (x.2.2 : Int))]); simp at this ⊢; omega
theorem flgGo_mem (n : Int) : ∀ (L : List P3) (a : List F2) (z : F2), z ∈ flgGo n a L → z ∈ a ∨ ∃ x ∈ L, z = (x.1, (x.2.2 : Int))
  | [], _, z, h => .inl h
  | x :: r, a, z, h => by
    unfold flgGo at h
    split at h
    · exact .inl h
    · split at h
      · rcases flgGo_mem n r a z h with h | ⟨y, hy, e⟩
        · exact .inl h
        · exact .inr ⟨y, by simp [hy], e⟩
      · rcases flgGo_mem n r _ z h with h | ⟨y, hy, e⟩
        · rcases List.mem_append.1 h with h | h
          · exact .inl h
          · exact .inr ⟨x, by simp, by simpa using h⟩
        · exact .inr ⟨y, by simp [hy], e⟩
theorem flgGo_step (n : Int) (acc : List F2) (x : P3) (r : List P3) (h : ¬ n ≤ (x.2.2 : Int)) : flgGo n acc (x :: r) = flgGo n (if acc.any (fun y => decide (y.1 = x.1)) then acc else acc ++ [(x.1, (x.2.2 : Int))]) r := by
  rw [flgGo, if_neg h]
theorem flgGo_stop (n : Int) (acc : List F2) (x : P3) (r : List P3) (h : n ≤ (x.2.2 : Int)) : flgGo n acc (x :: r) = acc := by
  rw [flgGo, if_pos h]
end Go.Vc
