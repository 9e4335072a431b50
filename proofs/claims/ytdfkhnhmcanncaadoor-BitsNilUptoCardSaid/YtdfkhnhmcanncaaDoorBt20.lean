/- bits: relations: Link, Linked, Row, the copy of the rows, the pairs' iterator. -/
import Derived.Test.YtdfkhnhmcanncaaDoorBt19
namespace Go.Vc
open Go Go.Proofs
set_option maxRecDepth 10000
variable {w : World}

section
variable {p n : Nat} {bs : List Nat} {M : List (List Nat)} {ad : Option Addr} {cap : Nat}
/-- a row's cell, a word's cell -/
theorem RelAt.cells (h : RelAt w p n bs M ad cap) {i : Nat} (hi : i < n) : ∃ ba b ws, ad = some ⟨ba, 0, none⟩ ∧ bs[i]? = some b ∧ M[i]? = some ws ∧ Blk w b (ws.map U) 41 ∧ ws.length = wid n ∧ WOk ws ∧ w.cell? ⟨ba, i, none⟩ = some (rowV (wid n) b) ∧ ∀ k, k < wid n → w.cell? ⟨b, k, none⟩ = some (U (ws.getD k 0)) := by
  obtain ⟨b, ws, h1, h2, h3, h4, h5⟩ := h.at_row hi
  have ho := h.own
  cases ad with
  | none => have := ho.2.1; omega
  | some ad =>
    obtain ⟨ba, off, spot⟩ := ad
    obtain ⟨e1, e2, _⟩ := ho.2
    cases e1; cases e2
    refine ⟨ba, b, ws, rfl, h1, h2, h3, h4, h5, ?_, fun k hk => ?_⟩
    · exact ho.get (by rw [List.getElem?_map, h1]; rfl)
    · refine h3.cell ?_
      rw [List.getElem?_map, List.getD_eq_getElem?_getD, List.getElem?_eq_getElem (by omega)]; rfl
theorem nodeB_nat {x : Int} (h : nodeB n x = true) : ∃ k : Nat, x = (k : Int) ∧ k < n := by
  unfold nodeB at h
  simp only [Bool.and_eq_true, decide_eq_true_eq] at h
  exact ⟨x.toNat, by omega, by omega⟩
def linkM (M : List (List Nat)) (i j : Nat) : List (List Nat) := M.set i ((M.getD i []).set (j / 64) ((M.getD i []).getD (j / 64) 0 ||| 2 ^ (j % 64)))
theorem wid_lt {j : Nat} (h : j < n) : j / 64 < wid n := by unfold wid; omega
theorem node_q (h : RelAt w p n bs M ad cap) (i : Int) : ∀ w1, Sm w w1 → Ret Tryd.prog 69 [ptr p, I i] w1 (fun v' w' => v' = .bool (nodeB n i) ∧ Sm w w') :=
  fun w1 hs => (node_ret (h.sm hs) i).mono fun v w' ⟨h1, h2⟩ => ⟨h1, by rw [h2]; exact hs⟩
theorem Link_ret (h : RelAt w p n bs M ad cap) {i j : Nat} (hi : i < n) (hj : j < n) :
    Ret Tryd.prog 29 [ptr p, I i, I j] w (fun v w' => v = I 0 ∧ RelTo w p n bs ad cap w' (linkM M i j)) := by
  obtain ⟨ba, b, ws, rfl, hb, hM, hB, hl, hok, hca, hcw⟩ := h.cells hi
  have hn := h.small
  refine enter Tryd.call29 Tryd.func29 rfl rfl rfl rfl ?_
  (repeat first|refine zA ?_|refine zB ?_|refine zC ?_|refine zD ?_|refine zE ?_|refine zg ?_|refine zo rfl rfl (by first|exact trivial|(simp only[AllP];omega)|(simp(discharger:=omega)only[AllP,cA,cB];omega)|(simp only[AllP,cC,cD,cE,cF,cG];omega)) ?_|refine zn ?_|refine zb ?_|refine ze rfl ?_|refine zr ?_|refine zk ?_|refine zT rfl rfl rfl ?_|refine zU rfl rfl rfl ?_|refine zV rfl rfl rfl ?_|refine zf rfl ?_|refine zt rfl ?_)
  refine o_call (rthere_ret h) rfl rfl rfl ?_
  rintro v w1 ⟨rfl, rfl⟩
  (repeat first|refine zA ?_|refine zB ?_|refine zC ?_|refine zD ?_|refine zE ?_|refine zg ?_|refine zo rfl rfl (by first|exact trivial|(simp only[AllP];omega)|(simp(discharger:=omega)only[AllP,cA,cB];omega)|(simp only[AllP,cC,cD,cE,cF,cG];omega)) ?_|refine zn ?_|refine zb ?_|refine ze rfl ?_|refine zr ?_|refine zk ?_|refine zT rfl rfl rfl ?_|refine zU rfl rfl rfl ?_|refine zV rfl rfl rfl ?_|refine zf rfl ?_|refine zt rfl ?_)
  have n1 : nodeB n (i : Int) = true := by unfold nodeB; simp; omega
  have n2 : nodeB n (j : Int) = true := by unfold nodeB; simp; omega
  refine o_call (node_ret h i) rfl rfl rfl ?_
  rintro v w2 ⟨rfl, rfl⟩
  rw [n1]
  (repeat first|refine zA ?_|refine zB ?_|refine zC ?_|refine zD ?_|refine zE ?_|refine zg ?_|refine zo rfl rfl (by first|exact trivial|(simp only[AllP];omega)|(simp(discharger:=omega)only[AllP,cA,cB];omega)|(simp only[AllP,cC,cD,cE,cF,cG];omega)) ?_|refine zn ?_|refine zb ?_|refine ze rfl ?_|refine zr ?_|refine zk ?_|refine zT rfl rfl rfl ?_|refine zU rfl rfl rfl ?_|refine zV rfl rfl rfl ?_|refine zf rfl ?_|refine zt rfl ?_)
  refine o_call (node_ret h j) rfl rfl rfl ?_
  rintro v w1 ⟨rfl, rfl⟩
  rw [n2]
  (repeat first|refine zA ?_|refine zB ?_|refine zC ?_|refine zD ?_|refine zE ?_|refine zg ?_|refine zo rfl rfl (by first|exact trivial|(simp only[AllP];omega)|(simp(discharger:=omega)only[AllP,cA,cB];omega)|(simp only[AllP,cC,cD,cE,cF,cG];omega)) ?_|refine zn ?_|refine zb ?_|refine ze rfl ?_|refine zr ?_|refine zk ?_|refine zT rfl rfl rfl ?_|refine zU rfl rfl rfl ?_|refine zV rfl rfl rfl ?_|refine zf rfl ?_|refine zt rfl ?_)
  have hjw := wid_lt hj
  have hd := tdiv64 j
  refine r_seq ?_
  refine r_lastL follows_mixed rfl (by kernel_rfl) (by kernel_rfl) ?_
  dsimp only [List.dropLast]
  have hs0 : ∀ w', Sm w1 w' → w'.heap = w1.heap := fun w' hs => hs.heap
  (repeat first|refine yo rfl rfl (by first|exact trivial|(simp only[AllP];omega)|(simp(discharger:=omega)only[AllP,cA,cB];omega)|(simp only[AllP,cC,cD,cE,cF,cG];omega)) ?_|refine yn ?_|refine q_know _ _ (some true) rfl rfl rfl ?_|refine q_know _ _ (some false) rfl rfl rfl ?_|refine q_know _ _ none rfl rfl rfl ?_)
  refine q_load rfl (fun w hs => (hs.blk h.hdr).cell rfl) rfl rfl rfl rfl ?_
  (repeat first|refine yo rfl rfl (by first|exact trivial|(simp only[AllP];omega)|(simp(discharger:=omega)only[AllP,cA,cB];omega)|(simp only[AllP,cC,cD,cE,cF,cG];omega)) ?_|refine yn ?_|refine q_know _ _ (some true) rfl rfl rfl ?_|refine q_know _ _ (some false) rfl rfl rfl ?_|refine q_know _ _ none rfl rfl rfl ?_)
  refine q_load (v := rowV (wid n) b) rfl (fun w hs => ?_) rfl rfl rfl rfl ?_
  · show w.cell? ⟨ba, 0 + i, none⟩ = _
    rw [Nat.zero_add, ← hca]; exact World.cell?_of_block (by rw [hs.heap])
  (repeat first|refine yo rfl rfl (by first|exact trivial|(simp only[AllP];omega)|(simp(discharger:=omega)only[AllP,cA,cB];omega)|(simp only[AllP,cC,cD,cE,cF,cG];omega)) ?_|refine yn ?_|refine q_know _ _ (some true) rfl rfl rfl ?_|refine q_know _ _ (some false) rfl rfl rfl ?_|refine q_know _ _ none rfl rfl rfl ?_)
  refine q_load (v := U (ws.getD (j / 64) 0)) rfl (fun w hs => ?_) rfl rfl rfl rfl ?_
  · show w.cell? ⟨b, 0 + (Int.tdiv (j : Int) 64).toNat, none⟩ = _
    rw [hd, Int.toNat_natCast, Nat.zero_add, ← hcw _ hjw]; exact World.cell?_of_block (by rw [hs.heap])
  (repeat first|refine yo rfl rfl (by first|exact trivial|(simp only[AllP];omega)|(simp(discharger:=omega)only[AllP,cA,cB];omega)|(simp only[AllP,cC,cD,cE,cF,cG];omega)) ?_|refine yn ?_|refine q_know _ _ (some true) rfl rfl rfl ?_|refine q_know _ _ (some false) rfl rfl rfl ?_|refine q_know _ _ none rfl rfl rfl ?_)
  intro w3 hs3
  have hx := hok.getD (j / 64)
  have e1 : ibits .or .u64 ((ws.getD (j / 64) 0 : Nat) : Int) (IntKind.u64.wrap (1 * 2 ^ (min (Int.tmod (j : Int) 64).toNat 64))) = ((ws.getD (j / 64) 0 ||| 2 ^ (j % 64) : Nat) : Int) := by
    rw [tmod64, Int.toNat_natCast, shl_one (by omega), ibits_or hx (Nat.pow_lt_pow_right (by omega) (by omega))]
  have hx2 : ws.getD (j / 64) 0 ||| 2 ^ (j % 64) < 2 ^ 64 := Nat.or_lt_two_pow hx (Nat.pow_lt_pow_right (by omega) (by omega))
  refine o_store (b := b) (off := j / 64) (v := U (ws.getD (j / 64) 0 ||| 2 ^ (j % 64))) (c := none) ?_ (hs3.blk hB) (by simp; omega) ?_ rfl rfl rfl rfl rfl ?_
  · show Value.pointer (some ⟨b, 0 + (Int.tdiv (j : Int) 64).toNat, none⟩) = _
    rw [hd, Int.toNat_natCast, Nat.zero_add]
  · exact congrArg (fun z => some (none, Value.int .u64 z)) e1
  intro w4 hu4
  have hst := h.stored hs3 hb hM hx2 hu4
  (repeat first|refine zA ?_|refine zB ?_|refine zC ?_|refine zD ?_|refine zE ?_|refine zg ?_|refine zo rfl rfl (by first|exact trivial|(simp only[AllP];omega)|(simp(discharger:=omega)only[AllP,cA,cB];omega)|(simp only[AllP,cC,cD,cE,cF,cG];omega)) ?_|refine zn ?_|refine zb ?_|refine ze rfl ?_|refine zr ?_|refine zk ?_|refine zT rfl rfl rfl ?_|refine zU rfl rfl rfl ?_|refine zV rfl rfl rfl ?_|refine zf rfl ?_|refine zt rfl ?_)
  refine ⟨_, rfl, rfl, ?_⟩
  unfold linkM
  rw [List.getD_eq_getElem?_getD, hM]
  exact hst
theorem Link_bad (h : RelAt w p n bs M ad cap) {i j : Int} (hb : (nodeB n i && nodeB n j) = false) :
    Ret Tryd.prog 29 [ptr p, I i, I j] w (fun v w' => v = I 2 ∧ w' = w) := by
  refine enter Tryd.call29 Tryd.func29 rfl rfl rfl rfl ?_
  (repeat first|refine zA ?_|refine zB ?_|refine zC ?_|refine zD ?_|refine zE ?_|refine zg ?_|refine zo rfl rfl (by first|exact trivial|(simp only[AllP];omega)|(simp(discharger:=omega)only[AllP,cA,cB];omega)|(simp only[AllP,cC,cD,cE,cF,cG];omega)) ?_|refine zn ?_|refine zb ?_|refine ze rfl ?_|refine zr ?_|refine zk ?_|refine zT rfl rfl rfl ?_|refine zU rfl rfl rfl ?_|refine zV rfl rfl rfl ?_|refine zf rfl ?_|refine zt rfl ?_)
  refine o_call (rthere_ret h) rfl rfl rfl ?_
  rintro v w1 ⟨rfl, rfl⟩
  (repeat first|refine zA ?_|refine zB ?_|refine zC ?_|refine zD ?_|refine zE ?_|refine zg ?_|refine zo rfl rfl (by first|exact trivial|(simp only[AllP];omega)|(simp(discharger:=omega)only[AllP,cA,cB];omega)|(simp only[AllP,cC,cD,cE,cF,cG];omega)) ?_|refine zn ?_|refine zb ?_|refine ze rfl ?_|refine zr ?_|refine zk ?_|refine zT rfl rfl rfl ?_|refine zU rfl rfl rfl ?_|refine zV rfl rfl rfl ?_|refine zf rfl ?_|refine zt rfl ?_)
  refine o_call (node_ret h i) rfl rfl rfl ?_
  rintro v w2 ⟨rfl, rfl⟩
  cases n1 : nodeB n i with
  | false =>
    (repeat first|refine zA ?_|refine zB ?_|refine zC ?_|refine zD ?_|refine zE ?_|refine zg ?_|refine zo rfl rfl (by first|exact trivial|(simp only[AllP];omega)|(simp(discharger:=omega)only[AllP,cA,cB];omega)|(simp only[AllP,cC,cD,cE,cF,cG];omega)) ?_|refine zn ?_|refine zb ?_|refine ze rfl ?_|refine zr ?_|refine zk ?_|refine zT rfl rfl rfl ?_|refine zU rfl rfl rfl ?_|refine zV rfl rfl rfl ?_|refine zf rfl ?_|refine zt rfl ?_)
    exact ⟨_, rfl, rfl, rfl⟩
  | true =>
    rw [n1] at hb
    (repeat first|refine zA ?_|refine zB ?_|refine zC ?_|refine zD ?_|refine zE ?_|refine zg ?_|refine zo rfl rfl (by first|exact trivial|(simp only[AllP];omega)|(simp(discharger:=omega)only[AllP,cA,cB];omega)|(simp only[AllP,cC,cD,cE,cF,cG];omega)) ?_|refine zn ?_|refine zb ?_|refine ze rfl ?_|refine zr ?_|refine zk ?_|refine zT rfl rfl rfl ?_|refine zU rfl rfl rfl ?_|refine zV rfl rfl rfl ?_|refine zf rfl ?_|refine zt rfl ?_)
    refine o_call (node_ret h j) rfl rfl rfl ?_
    rintro v w1 ⟨rfl, rfl⟩
    have n2 : nodeB n j = false := hb
    rw [n2]
    (repeat first|refine zA ?_|refine zB ?_|refine zC ?_|refine zD ?_|refine zE ?_|refine zg ?_|refine zo rfl rfl (by first|exact trivial|(simp only[AllP];omega)|(simp(discharger:=omega)only[AllP,cA,cB];omega)|(simp only[AllP,cC,cD,cE,cF,cG];omega)) ?_|refine zn ?_|refine zb ?_|refine ze rfl ?_|refine zr ?_|refine zk ?_|refine zT rfl rfl rfl ?_|refine zU rfl rfl rfl ?_|refine zV rfl rfl rfl ?_|refine zf rfl ?_|refine zt rfl ?_)
    exact ⟨_, rfl, rfl, rfl⟩
theorem Link_nil {i j : Int} : Ret Tryd.prog 29 [.pointer none, I i, I j] w (fun v w' => v = I 1 ∧ w' = w) := by
  refine enter Tryd.call29 Tryd.func29 rfl rfl rfl rfl ?_
  (repeat first|refine zA ?_|refine zB ?_|refine zC ?_|refine zD ?_|refine zE ?_|refine zg ?_|refine zo rfl rfl (by first|exact trivial|(simp only[AllP];omega)|(simp(discharger:=omega)only[AllP,cA,cB];omega)|(simp only[AllP,cC,cD,cE,cF,cG];omega)) ?_|refine zn ?_|refine zb ?_|refine ze rfl ?_|refine zr ?_|refine zk ?_|refine zT rfl rfl rfl ?_|refine zU rfl rfl rfl ?_|refine zV rfl rfl rfl ?_|refine zf rfl ?_|refine zt rfl ?_)
  refine o_call rthere_nil rfl rfl rfl ?_
  rintro v w1 ⟨rfl, rfl⟩
  (repeat first|refine zA ?_|refine zB ?_|refine zC ?_|refine zD ?_|refine zE ?_|refine zg ?_|refine zo rfl rfl (by first|exact trivial|(simp only[AllP];omega)|(simp(discharger:=omega)only[AllP,cA,cB];omega)|(simp only[AllP,cC,cD,cE,cF,cG];omega)) ?_|refine zn ?_|refine zb ?_|refine ze rfl ?_|refine zr ?_|refine zk ?_|refine zT rfl rfl rfl ?_|refine zU rfl rfl rfl ?_|refine zV rfl rfl rfl ?_|refine zf rfl ?_|refine zt rfl ?_)
  exact ⟨_, rfl, rfl, rfl⟩
def linkedB (n : Nat) (M : List (List Nat)) (i j : Int) : Bool := nodeB n i && nodeB n j && bitM M i.toNat j.toNat
theorem Linked_ret (h : RelAt w p n bs M ad cap) (i j : Int) :
    Ret Tryd.prog 32 [ptr p, I i, I j] w (fun v w' => v = .bool (linkedB n M i j) ∧ w' = w) := by
  have hn := h.small
  refine enter Tryd.call32 Tryd.func32 rfl rfl rfl rfl ?_
  (repeat first|refine zA ?_|refine zB ?_|refine zC ?_|refine zD ?_|refine zE ?_|refine zg ?_|refine zo rfl rfl (by first|exact trivial|(simp only[AllP];omega)|(simp(discharger:=omega)only[AllP,cA,cB];omega)|(simp only[AllP,cC,cD,cE,cF,cG];omega)) ?_|refine zn ?_|refine zb ?_|refine ze rfl ?_|refine zr ?_|refine zk ?_|refine zT rfl rfl rfl ?_|refine zU rfl rfl rfl ?_|refine zV rfl rfl rfl ?_|refine zf rfl ?_|refine zt rfl ?_)
  refine o_call (rthere_ret h) rfl rfl rfl ?_
  rintro v w1 ⟨rfl, rfl⟩
  (repeat first|refine zA ?_|refine zB ?_|refine zC ?_|refine zD ?_|refine zE ?_|refine zg ?_|refine zo rfl rfl (by first|exact trivial|(simp only[AllP];omega)|(simp(discharger:=omega)only[AllP,cA,cB];omega)|(simp only[AllP,cC,cD,cE,cF,cG];omega)) ?_|refine zn ?_|refine zb ?_|refine ze rfl ?_|refine zr ?_|refine zk ?_|refine zT rfl rfl rfl ?_|refine zU rfl rfl rfl ?_|refine zV rfl rfl rfl ?_|refine zf rfl ?_|refine zt rfl ?_)
  refine o_call (node_ret h i) rfl rfl rfl ?_
  rintro v w2 ⟨rfl, rfl⟩
  cases n1 : nodeB n i with
  | false =>
    (repeat first|refine zA ?_|refine zB ?_|refine zC ?_|refine zD ?_|refine zE ?_|refine zg ?_|refine zo rfl rfl (by first|exact trivial|(simp only[AllP];omega)|(simp(discharger:=omega)only[AllP,cA,cB];omega)|(simp only[AllP,cC,cD,cE,cF,cG];omega)) ?_|refine zn ?_|refine zb ?_|refine ze rfl ?_|refine zr ?_|refine zk ?_|refine zT rfl rfl rfl ?_|refine zU rfl rfl rfl ?_|refine zV rfl rfl rfl ?_|refine zf rfl ?_|refine zt rfl ?_)
    exact ⟨_, rfl, by simp [linkedB, n1], rfl⟩
  | true =>
    (repeat first|refine zA ?_|refine zB ?_|refine zC ?_|refine zD ?_|refine zE ?_|refine zg ?_|refine zo rfl rfl (by first|exact trivial|(simp only[AllP];omega)|(simp(discharger:=omega)only[AllP,cA,cB];omega)|(simp only[AllP,cC,cD,cE,cF,cG];omega)) ?_|refine zn ?_|refine zb ?_|refine ze rfl ?_|refine zr ?_|refine zk ?_|refine zT rfl rfl rfl ?_|refine zU rfl rfl rfl ?_|refine zV rfl rfl rfl ?_|refine zf rfl ?_|refine zt rfl ?_)
    refine o_call (node_ret h j) rfl rfl rfl ?_
    rintro v w1 ⟨rfl, rfl⟩
    cases n2 : nodeB n j with
    | false =>
      (repeat first|refine zA ?_|refine zB ?_|refine zC ?_|refine zD ?_|refine zE ?_|refine zg ?_|refine zo rfl rfl (by first|exact trivial|(simp only[AllP];omega)|(simp(discharger:=omega)only[AllP,cA,cB];omega)|(simp only[AllP,cC,cD,cE,cF,cG];omega)) ?_|refine zn ?_|refine zb ?_|refine ze rfl ?_|refine zr ?_|refine zk ?_|refine zT rfl rfl rfl ?_|refine zU rfl rfl rfl ?_|refine zV rfl rfl rfl ?_|refine zf rfl ?_|refine zt rfl ?_)
      exact ⟨_, rfl, by simp [linkedB, n1, n2], rfl⟩
    | true =>
      obtain ⟨i, rfl, hi⟩ := nodeB_nat n1
      obtain ⟨j, rfl, hj⟩ := nodeB_nat n2
      obtain ⟨ba, b, ws, rfl, hb, hM, hB, hl, hok, hca, hcw⟩ := h.cells hi
      have hjw := wid_lt hj
      have hd := tdiv64 j
      (repeat first|refine zA ?_|refine zB ?_|refine zC ?_|refine zD ?_|refine zE ?_|refine zg ?_|refine zo rfl rfl (by first|exact trivial|(simp only[AllP];omega)|(simp(discharger:=omega)only[AllP,cA,cB];omega)|(simp only[AllP,cC,cD,cE,cF,cG];omega)) ?_|refine zn ?_|refine zb ?_|refine ze rfl ?_|refine zr ?_|refine zk ?_|refine zT rfl rfl rfl ?_|refine zU rfl rfl rfl ?_|refine zV rfl rfl rfl ?_|refine zf rfl ?_|refine zt rfl ?_)
      refine o_load rfl h.hdr rfl rfl rfl rfl rfl ?_
      (repeat first|refine zA ?_|refine zB ?_|refine zC ?_|refine zD ?_|refine zE ?_|refine zg ?_|refine zo rfl rfl (by first|exact trivial|(simp only[AllP];omega)|(simp(discharger:=omega)only[AllP,cA,cB];omega)|(simp only[AllP,cC,cD,cE,cF,cG];omega)) ?_|refine zn ?_|refine zb ?_|refine ze rfl ?_|refine zr ?_|refine zk ?_|refine zT rfl rfl rfl ?_|refine zU rfl rfl rfl ?_|refine zV rfl rfl rfl ?_|refine zf rfl ?_|refine zt rfl ?_)
      refine o_loadc (v := rowV (wid n) b) rfl ?_ rfl rfl rfl rfl ?_
      · show w1.cell? ⟨ba, 0 + i, none⟩ = _
        rw [Nat.zero_add]; exact hca
      (repeat first|refine zA ?_|refine zB ?_|refine zC ?_|refine zD ?_|refine zE ?_|refine zg ?_|refine zo rfl rfl (by first|exact trivial|(simp only[AllP];omega)|(simp(discharger:=omega)only[AllP,cA,cB];omega)|(simp only[AllP,cC,cD,cE,cF,cG];omega)) ?_|refine zn ?_|refine zb ?_|refine ze rfl ?_|refine zr ?_|refine zk ?_|refine zT rfl rfl rfl ?_|refine zU rfl rfl rfl ?_|refine zV rfl rfl rfl ?_|refine zf rfl ?_|refine zt rfl ?_)
      refine o_loadc (v := U (ws.getD (j / 64) 0)) rfl ?_ rfl rfl rfl rfl ?_
      · show w1.cell? ⟨b, 0 + (Int.tdiv (j : Int) 64).toNat, none⟩ = _
        rw [hd, Int.toNat_natCast, Nat.zero_add]; exact hcw _ hjw
      (repeat first|refine zA ?_|refine zB ?_|refine zC ?_|refine zD ?_|refine zE ?_|refine zg ?_|refine zo rfl rfl (by first|exact trivial|(simp only[AllP];omega)|(simp(discharger:=omega)only[AllP,cA,cB];omega)|(simp only[AllP,cC,cD,cE,cF,cG];omega)) ?_|refine zn ?_|refine zb ?_|refine ze rfl ?_|refine zr ?_|refine zk ?_|refine zT rfl rfl rfl ?_|refine zU rfl rfl rfl ?_|refine zV rfl rfl rfl ?_|refine zf rfl ?_|refine zt rfl ?_)
      refine ⟨_, rfl, ?_, rfl⟩
      show Value.bool (!decide (ibits .and .u64 (Int.fdiv ((ws.getD (j / 64) 0 : Nat) : Int) (2 ^ (min (Int.tmod (j : Int) 64).toNat 64))) 1 = 0)) = _
      rw [bit_shr (hok.getD _)]
      refine congrArg Value.bool ?_
      unfold linkedB
      rw [n1, n2, Int.toNat_natCast, Int.toNat_natCast, bitM_row hM]
      unfold bit
      rw [Bool.eq_iff_iff]
      simp only [Bool.not_eq_true', decide_eq_false_iff_not, bit_and1]
      simp
theorem Linked_nil (i j : Int) : Ret Tryd.prog 32 [.pointer none, I i, I j] w (fun v w' => v = .bool false ∧ w' = w) := by
  refine enter Tryd.call32 Tryd.func32 rfl rfl rfl rfl ?_
  (repeat first|refine zA ?_|refine zB ?_|refine zC ?_|refine zD ?_|refine zE ?_|refine zg ?_|refine zo rfl rfl (by first|exact trivial|(simp only[AllP];omega)|(simp(discharger:=omega)only[AllP,cA,cB];omega)|(simp only[AllP,cC,cD,cE,cF,cG];omega)) ?_|refine zn ?_|refine zb ?_|refine ze rfl ?_|refine zr ?_|refine zk ?_|refine zT rfl rfl rfl ?_|refine zU rfl rfl rfl ?_|refine zV rfl rfl rfl ?_|refine zf rfl ?_|refine zt rfl ?_)
  refine o_call rthere_nil rfl rfl rfl ?_
  rintro v w1 ⟨rfl, rfl⟩
  (repeat first|refine zA ?_|refine zB ?_|refine zC ?_|refine zD ?_|refine zE ?_|refine zg ?_|refine zo rfl rfl (by first|exact trivial|(simp only[AllP];omega)|(simp(discharger:=omega)only[AllP,cA,cB];omega)|(simp only[AllP,cC,cD,cE,cF,cG];omega)) ?_|refine zn ?_|refine zb ?_|refine ze rfl ?_|refine zr ?_|refine zk ?_|refine zT rfl rfl rfl ?_|refine zU rfl rfl rfl ?_|refine zV rfl rfl rfl ?_|refine zf rfl ?_|refine zt rfl ?_)
  exact ⟨_, rfl, rfl, rfl⟩
theorem Row_ret (hT : TabW w) (h : RelAt w p n bs M ad cap) {i : Nat} (hi : i < n) :
    Ret Tryd.prog 38 [ptr p, I i] w (fun v w' => ∃ q ad' cap', v = .tuple #[ptr q, I 0] ∧ NewSet w q w' (trim (M.getD i [])) ad' cap') := by
  have hn := h.small
  obtain ⟨ba, b, ws, rfl, hb, hM, hB, hl, hok, hca, hcw⟩ := h.cells hi
  have hwn : wid n ≤ 32 := by unfold wid; omega
  refine enter Tryd.call38 Tryd.func38 rfl rfl rfl rfl ?_
  (repeat first|refine zA ?_|refine zB ?_|refine zC ?_|refine zD ?_|refine zE ?_|refine zg ?_|refine zo rfl rfl (by first|exact trivial|(simp only[AllP];omega)|(simp(discharger:=omega)only[AllP,cA,cB];omega)|(simp only[AllP,cC,cD,cE,cF,cG];omega)) ?_|refine zn ?_|refine zb ?_|refine ze rfl ?_|refine zr ?_|refine zk ?_|refine zT rfl rfl rfl ?_|refine zU rfl rfl rfl ?_|refine zV rfl rfl rfl ?_|refine zf rfl ?_|refine zt rfl ?_)
  refine o_call (rthere_ret h) rfl rfl rfl ?_
  rintro v w1 ⟨rfl, rfl⟩
  (repeat first|refine zA ?_|refine zB ?_|refine zC ?_|refine zD ?_|refine zE ?_|refine zg ?_|refine zo rfl rfl (by first|exact trivial|(simp only[AllP];omega)|(simp(discharger:=omega)only[AllP,cA,cB];omega)|(simp only[AllP,cC,cD,cE,cF,cG];omega)) ?_|refine zn ?_|refine zb ?_|refine ze rfl ?_|refine zr ?_|refine zk ?_|refine zT rfl rfl rfl ?_|refine zU rfl rfl rfl ?_|refine zV rfl rfl rfl ?_|refine zf rfl ?_|refine zt rfl ?_)
  have n1 : nodeB n (i : Int) = true := by unfold nodeB; simp; omega
  refine o_call (node_ret h i) rfl rfl rfl ?_
  rintro v w2 ⟨rfl, rfl⟩
  rw [n1]
  (repeat first|refine zA ?_|refine zB ?_|refine zC ?_|refine zD ?_|refine zE ?_|refine zg ?_|refine zo rfl rfl (by first|exact trivial|(simp only[AllP];omega)|(simp(discharger:=omega)only[AllP,cA,cB];omega)|(simp only[AllP,cC,cD,cE,cF,cG];omega)) ?_|refine zn ?_|refine zb ?_|refine ze rfl ?_|refine zr ?_|refine zk ?_|refine zT rfl rfl rfl ?_|refine zU rfl rfl rfl ?_|refine zV rfl rfl rfl ?_|refine zf rfl ?_|refine zt rfl ?_)
  refine o_load rfl h.hdr rfl rfl rfl rfl rfl ?_
  (repeat first|refine zA ?_|refine zB ?_|refine zC ?_|refine zD ?_|refine zE ?_|refine zg ?_|refine zo rfl rfl (by first|exact trivial|(simp only[AllP];omega)|(simp(discharger:=omega)only[AllP,cA,cB];omega)|(simp only[AllP,cC,cD,cE,cF,cG];omega)) ?_|refine zn ?_|refine zb ?_|refine ze rfl ?_|refine zr ?_|refine zk ?_|refine zT rfl rfl rfl ?_|refine zU rfl rfl rfl ?_|refine zV rfl rfl rfl ?_|refine zf rfl ?_|refine zt rfl ?_)
  refine o_loadc (v := rowV (wid n) b) rfl ?_ rfl rfl rfl rfl ?_
  · show w2.cell? ⟨ba, 0 + i, none⟩ = _
    rw [Nat.zero_add]; exact hca
  (repeat first|refine zA ?_|refine zB ?_|refine zC ?_|refine zD ?_|refine zE ?_|refine zg ?_|refine zo rfl rfl (by first|exact trivial|(simp only[AllP];omega)|(simp(discharger:=omega)only[AllP,cA,cB];omega)|(simp only[AllP,cC,cD,cE,cF,cG];omega)) ?_|refine zn ?_|refine zb ?_|refine ze rfl ?_|refine zr ?_|refine zk ?_|refine zT rfl rfl rfl ?_|refine zU rfl rfl rfl ?_|refine zV rfl rfl rfl ?_|refine zf rfl ?_|refine zt rfl ?_)
  have hof := Of_ret hT (ad := some ⟨b, 0, none⟩) (cap := wid n) ⟨ReadS.blk hB, hok, by omega⟩ (by omega)
  rw [hl] at hof
  refine o_call hof rfl rfl rfl ?_
  have hsm : ¬ Big ws := fun hb => by have := (big_iff hok).1 hb; have := trim_len ws; omega
  rintro v w3 (⟨_, q, a', c', rfl, hn'⟩ | ⟨hb', _⟩)
  rotate_left
  · exact absurd hb' hsm
  (repeat first|refine zA ?_|refine zB ?_|refine zC ?_|refine zD ?_|refine zE ?_|refine zg ?_|refine zo rfl rfl (by first|exact trivial|(simp only[AllP];omega)|(simp(discharger:=omega)only[AllP,cA,cB];omega)|(simp only[AllP,cC,cD,cE,cF,cG];omega)) ?_|refine zn ?_|refine zb ?_|refine ze rfl ?_|refine zr ?_|refine zk ?_|refine zT rfl rfl rfl ?_|refine zU rfl rfl rfl ?_|refine zV rfl rfl rfl ?_|refine zf rfl ?_|refine zt rfl ?_)
  refine ⟨_, rfl, q, a', c', rfl, ?_⟩
  rw [List.getD_eq_getElem?_getD, hM]
  exact hn'
theorem Row_bad (h : RelAt w p n bs M ad cap) {i : Int} (hb : nodeB n i = false) :
    Ret Tryd.prog 38 [ptr p, I i] w (fun v w' => v = .tuple #[.pointer none, I 2] ∧ w' = w) := by
  refine enter Tryd.call38 Tryd.func38 rfl rfl rfl rfl ?_
  (repeat first|refine zA ?_|refine zB ?_|refine zC ?_|refine zD ?_|refine zE ?_|refine zg ?_|refine zo rfl rfl (by first|exact trivial|(simp only[AllP];omega)|(simp(discharger:=omega)only[AllP,cA,cB];omega)|(simp only[AllP,cC,cD,cE,cF,cG];omega)) ?_|refine zn ?_|refine zb ?_|refine ze rfl ?_|refine zr ?_|refine zk ?_|refine zT rfl rfl rfl ?_|refine zU rfl rfl rfl ?_|refine zV rfl rfl rfl ?_|refine zf rfl ?_|refine zt rfl ?_)
  refine o_call (rthere_ret h) rfl rfl rfl ?_
  rintro v w1 ⟨rfl, rfl⟩
  (repeat first|refine zA ?_|refine zB ?_|refine zC ?_|refine zD ?_|refine zE ?_|refine zg ?_|refine zo rfl rfl (by first|exact trivial|(simp only[AllP];omega)|(simp(discharger:=omega)only[AllP,cA,cB];omega)|(simp only[AllP,cC,cD,cE,cF,cG];omega)) ?_|refine zn ?_|refine zb ?_|refine ze rfl ?_|refine zr ?_|refine zk ?_|refine zT rfl rfl rfl ?_|refine zU rfl rfl rfl ?_|refine zV rfl rfl rfl ?_|refine zf rfl ?_|refine zt rfl ?_)
  refine o_call (node_ret h i) rfl rfl rfl ?_
  rintro v w2 ⟨rfl, rfl⟩
  rw [hb]
  (repeat first|refine zA ?_|refine zB ?_|refine zC ?_|refine zD ?_|refine zE ?_|refine zg ?_|refine zo rfl rfl (by first|exact trivial|(simp only[AllP];omega)|(simp(discharger:=omega)only[AllP,cA,cB];omega)|(simp only[AllP,cC,cD,cE,cF,cG];omega)) ?_|refine zn ?_|refine zb ?_|refine ze rfl ?_|refine zr ?_|refine zk ?_|refine zT rfl rfl rfl ?_|refine zU rfl rfl rfl ?_|refine zV rfl rfl rfl ?_|refine zf rfl ?_|refine zt rfl ?_)
  exact ⟨_, rfl, rfl, rfl⟩
theorem Row_nil {i : Int} : Ret Tryd.prog 38 [.pointer none, I i] w (fun v w' => v = .tuple #[.pointer none, I 1] ∧ w' = w) := by
  refine enter Tryd.call38 Tryd.func38 rfl rfl rfl rfl ?_
  (repeat first|refine zA ?_|refine zB ?_|refine zC ?_|refine zD ?_|refine zE ?_|refine zg ?_|refine zo rfl rfl (by first|exact trivial|(simp only[AllP];omega)|(simp(discharger:=omega)only[AllP,cA,cB];omega)|(simp only[AllP,cC,cD,cE,cF,cG];omega)) ?_|refine zn ?_|refine zb ?_|refine ze rfl ?_|refine zr ?_|refine zk ?_|refine zT rfl rfl rfl ?_|refine zU rfl rfl rfl ?_|refine zV rfl rfl rfl ?_|refine zf rfl ?_|refine zt rfl ?_)
  refine o_call rthere_nil rfl rfl rfl ?_
  rintro v w1 ⟨rfl, rfl⟩
  (repeat first|refine zA ?_|refine zB ?_|refine zC ?_|refine zD ?_|refine zE ?_|refine zg ?_|refine zo rfl rfl (by first|exact trivial|(simp only[AllP];omega)|(simp(discharger:=omega)only[AllP,cA,cB];omega)|(simp only[AllP,cC,cD,cE,cF,cG];omega)) ?_|refine zn ?_|refine zb ?_|refine ze rfl ?_|refine zr ?_|refine zk ?_|refine zT rfl rfl rfl ?_|refine zU rfl rfl rfl ?_|refine zV rfl rfl rfl ?_|refine zf rfl ?_|refine zt rfl ?_)
  exact ⟨_, rfl, rfl, rfl⟩

/-! ### The copy of the rows -/
/-- rows that lie in a block: their slices As, their words M -/
structure RowsAt (w : World) (bc n : Nat) (As : List (Option Addr × Nat)) (M : List (List Nat)) : Prop where
  blk : Blk w bc (As.map fun x => Value.slice x.1 (wid n) x.2) 40
  nA : As.length = n
  nM : M.length = n
  row : ∀ (i : Nat) (x : Option Addr × Nat) (ws : List Nat), As[i]? = some x → M[i]? = some ws → OwnS w 41 1 x.1 (wid n) x.2 (ws.map U) ∧ WOk ws ∧ ws.length = wid n
def rowsBlks (bc : Nat) (As : List (Option Addr × Nat)) : List Nat := bc :: As.flatMap fun x => blkOf x.1
theorem RowsAt.keep {w' : World} {bc : Nat} {As : List (Option Addr × Nat)} (h : RowsAt w bc n As M) (hk : ∀ b, b ∈ rowsBlks bc As → w'.heap[b]? = w.heap[b]?) : RowsAt w' bc n As M :=
  ⟨by unfold Blk; rw [hk bc (by simp [rowsBlks])]; exact h.blk, h.nA, h.nM, fun i x ws h1 h2 => ⟨(h.row i x ws h1 h2).1.keep (fun b hb => hk b (by
    unfold rowsBlks
    refine List.mem_cons_of_mem _ (List.mem_flatMap.2 ⟨x, List.mem_of_getElem? h1, hb⟩))), (h.row i x ws h1 h2).2⟩⟩
theorem RowsAt.lt {bc : Nat} {As : List (Option Addr × Nat)} (h : RowsAt w bc n As M) : ∀ b, b ∈ rowsBlks bc As → b < w.heap.size := by
  intro b hb
  rcases List.mem_cons.1 hb with rfl | hb
  · exact h.blk.lt
  · obtain ⟨x, hx, hb⟩ := List.mem_flatMap.1 hb
    obtain ⟨i, hi⟩ := List.getElem?_of_mem hx
    have hlt : i < M.length := by rw [h.nM, ← h.nA]; exact (List.getElem?_eq_some_iff.1 hi).1
    exact (h.row i x M[i] hi (List.getElem?_eq_getElem hlt)).1.lt b hb
theorem copied_ret (h : RelAt w p n bs M ad cap) :
    Ret Tryd.prog 70 [ptr p] w (fun v w' => ∃ bc As, v = .slice (some ⟨bc, 0, none⟩) n n ∧ RowsAt w' bc n As M ∧ Kp [] w w' ∧ ∀ b, b ∈ rowsBlks bc As → w.heap.size ≤ b) := by
  have hn := h.small
  refine enter Tryd.call70 Tryd.func70 rfl rfl rfl rfl ?_
  (repeat first|refine zA ?_|refine zB ?_|refine zC ?_|refine zD ?_|refine zE ?_|refine zg ?_|refine zo rfl rfl (by first|exact trivial|(simp only[AllP];omega)|(simp(discharger:=omega)only[AllP,cA,cB];omega)|(simp only[AllP,cC,cD,cE,cF,cG];omega)) ?_|refine zn ?_|refine zb ?_|refine ze rfl ?_|refine zr ?_|refine zk ?_|refine zT rfl rfl rfl ?_|refine zU rfl rfl rfl ?_|refine zV rfl rfl rfl ?_|refine zf rfl ?_|refine zt rfl ?_)
  refine o_call (rthere_ret h) rfl rfl rfl ?_
  rintro v w1 ⟨rfl, rfl⟩
  (repeat first|refine zA ?_|refine zB ?_|refine zC ?_|refine zD ?_|refine zE ?_|refine zg ?_|refine zo rfl rfl (by first|exact trivial|(simp only[AllP];omega)|(simp(discharger:=omega)only[AllP,cA,cB];omega)|(simp only[AllP,cC,cD,cE,cF,cG];omega)) ?_|refine zn ?_|refine zb ?_|refine ze rfl ?_|refine zr ?_|refine zk ?_|refine zT rfl rfl rfl ?_|refine zU rfl rfl rfl ?_|refine zV rfl rfl rfl ?_|refine zf rfl ?_|refine zt rfl ?_)
  refine o_load rfl h.hdr rfl rfl rfl rfl rfl ?_
  (repeat first|refine zA ?_|refine zB ?_|refine zC ?_|refine zD ?_|refine zE ?_|refine zg ?_|refine zo rfl rfl (by first|exact trivial|(simp only[AllP];omega)|(simp(discharger:=omega)only[AllP,cA,cB];omega)|(simp only[AllP,cC,cD,cE,cF,cG];omega)) ?_|refine zn ?_|refine zb ?_|refine ze rfl ?_|refine zr ?_|refine zk ?_|refine zT rfl rfl rfl ?_|refine zU rfl rfl rfl ?_|refine zV rfl rfl rfl ?_|refine zf rfl ?_|refine zt rfl ?_)
  refine o_make (len := (n : Int)) (cap := (n : Int)) (kl := .i64) (kc := .i64) rfl rfl rfl rfl rfl (by omega) (by omega) (by omega) (by omega) rfl rfl ?_
  intro bc w2 hbc hu2
  rw [Int.toNat_natCast] at hu2 ⊢
  have k2 : Kp [] w1 w2 := hu2.kp [] (.inr (by omega))
  have h2 := h.kp0 k2
  have s2 := hu2.size
  have l2 := hu2.lt
  (repeat first|refine zA ?_|refine zB ?_|refine zC ?_|refine zD ?_|refine zE ?_|refine zg ?_|refine zo rfl rfl (by first|exact trivial|(simp only[AllP];omega)|(simp(discharger:=omega)only[AllP,cA,cB];omega)|(simp only[AllP,cC,cD,cE,cF,cG];omega)) ?_|refine zn ?_|refine zb ?_|refine ze rfl ?_|refine zr ?_|refine zk ?_|refine zT rfl rfl rfl ?_|refine zU rfl rfl rfl ?_|refine zV rfl rfl rfl ?_|refine zf rfl ?_|refine zt rfl ?_)
  refine o_load rfl h2.hdr rfl rfl rfl rfl rfl ?_
  (repeat first|refine zA ?_|refine zB ?_|refine zC ?_|refine zD ?_|refine zE ?_|refine zg ?_|refine zo rfl rfl (by first|exact trivial|(simp only[AllP];omega)|(simp(discharger:=omega)only[AllP,cA,cB];omega)|(simp only[AllP,cC,cD,cE,cF,cG];omega)) ?_|refine zn ?_|refine zb ?_|refine ze rfl ?_|refine zr ?_|refine zk ?_|refine zT rfl rfl rfl ?_|refine zU rfl rfl rfl ?_|refine zV rfl rfl rfl ?_|refine zf rfl ?_|refine zt rfl ?_)
  refine r_loop (α := Nat × List (Option Addr × Nat)) [3, 17, 18, 19] (fun g => [.slice (some ⟨bc, 0, none⟩) n n, .slice ad n cap, I n, I g.1])
    (fun g w3 => Blk w3 bc (g.2.map (fun x => Value.slice x.1 (wid n) x.2) ++ List.replicate (n - g.1) (.slice none 0 0)) 40 ∧ g.2.length = g.1 ∧ g.1 ≤ n ∧ Kp [] w1 w3 ∧ (∀ (i : Nat) (x : Option Addr × Nat) (ws : List Nat), g.2[i]? = some x → M[i]? = some ws → OwnS w3 41 1 x.1 (wid n) x.2 (ws.map U)) ∧ ∀ b, b ∈ rowsBlks bc g.2 → w1.heap.size ≤ b)
    (fun g => n - g.1) (0, []) rfl ⟨by simpa using hu2.blk, rfl, by omega, k2, by simp, by simp [rowsBlks]; omega⟩ ?_
  rintro ⟨i, As⟩ e w3 ⟨hB, hlA, hi, hk, hrow, hnew⟩
  dsimp only at hB hlA hi hk hrow hnew ⊢
  have h3 := h.kp0 hk
  (repeat first|refine zA ?_|refine zB ?_|refine zC ?_|refine zD ?_|refine zE ?_|refine zg ?_|refine zo rfl rfl (by first|exact trivial|(simp only[AllP];omega)|(simp(discharger:=omega)only[AllP,cA,cB];omega)|(simp only[AllP,cC,cD,cE,cF,cG];omega)) ?_|refine zn ?_|refine zb ?_|refine ze rfl ?_|refine zr ?_|refine zk ?_|refine zT rfl rfl rfl ?_|refine zU rfl rfl rfl ?_|refine zV rfl rfl rfl ?_|refine zf rfl ?_|refine zt rfl ?_)
  refine r_if rfl (fun hc => ?_) (fun hc => ?_)
  rotate_left
  · have : i = n := by omega
    subst this
    (repeat first|refine zA ?_|refine zB ?_|refine zC ?_|refine zD ?_|refine zE ?_|refine zg ?_|refine zo rfl rfl (by first|exact trivial|(simp only[AllP];omega)|(simp(discharger:=omega)only[AllP,cA,cB];omega)|(simp only[AllP,cC,cD,cE,cF,cG];omega)) ?_|refine zn ?_|refine zb ?_|refine ze rfl ?_|refine zr ?_|refine zk ?_|refine zT rfl rfl rfl ?_|refine zU rfl rfl rfl ?_|refine zV rfl rfl rfl ?_|refine zf rfl ?_|refine zt rfl ?_)
    refine ⟨_, rfl, bc, As, rfl, ⟨by simpa using hB, hlA, h.nM, fun j x ws h1 h2 => ⟨hrow j x ws h1 h2, ?_⟩⟩, hk, hnew⟩
    have hj : j < i := by rw [← hlA]; exact (List.getElem?_eq_some_iff.1 h1).1
    obtain ⟨b, ws', _, g2, _, g4, g5⟩ := h.at_row hj
    rw [h2] at g2; cases g2
    exact ⟨g5, g4⟩
  have hlt : i < n := by omega
  obtain ⟨ba, b, ws, rfl, hb, hM, hBr, hl, hok, hca, hcw⟩ := h3.cells hlt
  have hwn : wid n ≤ 32 := by unfold wid; omega
  (repeat first|refine zA ?_|refine zB ?_|refine zC ?_|refine zD ?_|refine zE ?_|refine zg ?_|refine zo rfl rfl (by first|exact trivial|(simp only[AllP];omega)|(simp(discharger:=omega)only[AllP,cA,cB];omega)|(simp only[AllP,cC,cD,cE,cF,cG];omega)) ?_|refine zn ?_|refine zb ?_|refine ze rfl ?_|refine zr ?_|refine zk ?_|refine zT rfl rfl rfl ?_|refine zU rfl rfl rfl ?_|refine zV rfl rfl rfl ?_|refine zf rfl ?_|refine zt rfl ?_)
  refine o_loadc (v := rowV (wid n) b) rfl ?_ rfl rfl rfl rfl ?_
  · show w3.cell? ⟨ba, 0 + i, none⟩ = _
    rw [Nat.zero_add]; exact hca
  (repeat first|refine zA ?_|refine zB ?_|refine zC ?_|refine zD ?_|refine zE ?_|refine zg ?_|refine zo rfl rfl (by first|exact trivial|(simp only[AllP];omega)|(simp(discharger:=omega)only[AllP,cA,cB];omega)|(simp only[AllP,cC,cD,cE,cF,cG];omega)) ?_|refine zn ?_|refine zb ?_|refine ze rfl ?_|refine zr ?_|refine zk ?_|refine zT rfl rfl rfl ?_|refine zU rfl rfl rfl ?_|refine zV rfl rfl rfl ?_|refine zf rfl ?_|refine zt rfl ?_)
  refine o_load (v := .slice none 0 0) rfl hB ?_ rfl rfl rfl rfl ?_
  · show (_ : List Value)[0 + i]? = _
    rw [Nat.zero_add, List.getElem?_append_right (by simp [hlA]), List.getElem?_replicate]
    simp [hlA]; omega
  (repeat first|refine zA ?_|refine zB ?_|refine zC ?_|refine zD ?_|refine zE ?_|refine zg ?_|refine zo rfl rfl (by first|exact trivial|(simp only[AllP];omega)|(simp(discharger:=omega)only[AllP,cA,cB];omega)|(simp only[AllP,cC,cD,cE,cF,cG];omega)) ?_|refine zn ?_|refine zb ?_|refine ze rfl ?_|refine zr ?_|refine zk ?_|refine zT rfl rfl rfl ?_|refine zU rfl rfl rfl ?_|refine zV rfl rfl rfl ?_|refine zf rfl ?_|refine zt rfl ?_)
  refine o_appendNil (ws.map U) rfl rfl (ReadS.blk hBr) rfl rfl rfl (by simp [hl]) (by simp [Value.oneCell']) (by simp only [maxLen]; omega) (by omega) rfl rfl ?_
  intro a4 c4 w4 hn4
  have hB4 := hn4.kp.blk (by simp) hB
  (repeat first|refine zA ?_|refine zB ?_|refine zC ?_|refine zD ?_|refine zE ?_|refine zg ?_|refine zo rfl rfl (by first|exact trivial|(simp only[AllP];omega)|(simp(discharger:=omega)only[AllP,cA,cB];omega)|(simp only[AllP,cC,cD,cE,cF,cG];omega)) ?_|refine zn ?_|refine zb ?_|refine ze rfl ?_|refine zr ?_|refine zk ?_|refine zT rfl rfl rfl ?_|refine zU rfl rfl rfl ?_|refine zV rfl rfl rfl ?_|refine zf rfl ?_|refine zt rfl ?_)
  refine o_store (off := i) (v := .slice a4 (wid n) c4) (c := none) ?_ hB4 (by simp [hlA]; omega) rfl rfl rfl rfl rfl rfl ?_
  · show Value.pointer (some ⟨bc, 0 + i, none⟩) = _
    rw [Nat.zero_add]
  intro w5 hu5
  have hbc4 : bc ∉ blkOf a4 := fun hb => by have := hn4.new bc hb; have := hB.lt; omega
  (repeat first|refine zA ?_|refine zB ?_|refine zC ?_|refine zD ?_|refine zE ?_|refine zg ?_|refine zo rfl rfl (by first|exact trivial|(simp only[AllP];omega)|(simp(discharger:=omega)only[AllP,cA,cB];omega)|(simp only[AllP,cC,cD,cE,cF,cG];omega)) ?_|refine zn ?_|refine zb ?_|refine ze rfl ?_|refine zr ?_|refine zk ?_|refine zT rfl rfl rfl ?_|refine zU rfl rfl rfl ?_|refine zV rfl rfl rfl ?_|refine zf rfl ?_|refine zt rfl ?_)
  refine ⟨(i + 1, As ++ [(a4, c4)]), rfl, ⟨?_, by simp [hlA], by dsimp only; omega, (hk.trans hn4.kp).since (hu5.kp [bc] (.inl (by simp))) (by simp; omega), ?_, ?_⟩, by dsimp only; omega⟩
  · dsimp only
    have := hu5.blk
    rw [List.set_append_right _ _ (by simp [hlA])] at this
    rw [List.map_append, List.append_assoc]
    have e1 : (List.replicate (n - i) (Value.slice none 0 0)).set (i - (As.map fun x => Value.slice x.1 (wid n) x.2).length) (.slice a4 (wid n) c4) = .slice a4 (wid n) c4 :: List.replicate (n - (i + 1)) (.slice none 0 0) := by
      have h0 : i - (As.map fun x => Value.slice x.1 (wid n) x.2).length = 0 := by simp [hlA]
      have h1 : n - i = n - (i + 1) + 1 := by omega
      rw [h0, h1, List.replicate_succ]; rfl
    rw [e1] at this
    exact this
  · intro j x ws' h1 h2
    dsimp only at h1
    by_cases hj : j < i
    · rw [List.getElem?_append_left (by omega)] at h1
      have ho := hrow j x ws' h1 h2
      refine (ho.kp hn4.kp (by simp)).upd hu5 fun hm => ?_
      have := ho.2
      cases hx : x.1 with
      | none => rw [hx] at hm; simp [blkOf] at hm
      | some y =>
        rw [hx] at hm this
        simp [blkOf] at hm; subst hm
        obtain ⟨_, _, _, _, junk, g5, _⟩ := this
        exact relRow_ne hB g5 (by decide) rfl
    · have hji : j = i := by
        have := (List.getElem?_eq_some_iff.1 h1).1
        simp [hlA] at this; omega
      subst hji
      rw [List.getElem?_append_right (by omega)] at h1
      simp [hlA] at h1; subst h1
      rw [hM] at h2; cases h2
      exact hn4.own.upd hu5 hbc4
  · intro b' hb'
    dsimp only at hb'
    unfold rowsBlks at hb'
    rcases List.mem_cons.1 hb' with rfl | hb'
    · exact hnew _ (by simp [rowsBlks])
    · rw [List.flatMap_append] at hb'
      rcases List.mem_append.1 hb' with hb' | hb'
      · exact hnew b' (by simp only [rowsBlks, List.mem_cons]; exact .inr hb')
      · simp at hb'
        have := hn4.new b' hb'; have := hk.size; omega
end
end Go.Vc
