/- bits: the document's relations: Link, Linked, Row, Pairs. -/
import Derived.Test.YtdfkhnhmcanncaaDoorBt28
namespace Go.Vc
open Go Go.Proofs
set_option maxRecDepth 10000
variable {w : World}

theorem rowsF_link {n : Nat} {M : List (List Nat)} (h : MOk n M) {i j : Nat} (hi : i < n) (hj : j < n) (a : Nat) : rowsF (linkM M i j) a = if a = i then withL (rowsF M i) j else rowsF M a := by
  have hb := bitM_linkM h hi hj
  by_cases ha : a = i
  · subst ha
    rw [if_pos rfl]
    unfold rowsF
    exact elems_withL fun k => by
      have := hb a k
      unfold bitM at this
      rw [this]
      simp
  · rw [if_neg ha]
    unfold rowsF
    refine sorted_ext (elems_sorted _) (elems_sorted _) fun x => ?_
    rw [mem_elems, mem_elems]
    have := hb a x
    unfold bitM at this
    rw [this]
    simp [ha]
section
variable {p bw n : Nat} {As : Nat → Option Addr × Nat} {M : List (List Nat)}
theorem rowsF_len (hM : MOk n M) (hn : n ≤ 2048) (i : Nat) : (rowsF M i).length ≤ 2048 := by
  unfold rowsF
  have h1 := elems_len (M.getD i [])
  by_cases hi : i < n
  · obtain ⟨ws, _, h2, h3, _⟩ := hM.get hi
    rw [h2] at h1 ⊢
    have : wid n ≤ 32 := by unfold wid; omega
    omega
  · have : M.getD i [] = [] := by rw [List.getD_eq_getElem?_getD, List.getElem?_eq_none (by rw [hM.len]; omega)]; rfl
    rw [this]; simp [elems]
theorem mem_rowsF {i j : Nat} : j ∈ rowsF M i ↔ bitM M i j = true := mem_elems
theorem rowsF_sorted (i : Nat) : (rowsF M i).Pairwise (· < ·) := elems_sorted _
theorem rLink_nil {i j : Int} : Ret Tryd.prog 37 [.pointer none, I i, I j] w (fun v w' => v = I 1 ∧ w' = w) := by
  refine enter Tryd.call37 Tryd.func37 rfl rfl rfl rfl ?_
  (repeat first|refine zA ?_|refine zB ?_|refine zC ?_|refine zD ?_|refine zE ?_|refine zg ?_|refine zo rfl rfl (by first|exact trivial|(simp only[AllP];omega)|(simp(discharger:=omega)only[AllP,cA,cB];omega)|(simp only[AllP,cC,cD,cE,cF,cG];omega)) ?_|refine zn ?_|refine zb ?_|refine ze rfl ?_|refine zr ?_|refine zk ?_|refine zT rfl rfl rfl ?_|refine zU rfl rfl rfl ?_|refine zV rfl rfl rfl ?_|refine zf rfl ?_|refine zt rfl ?_)
  exact ⟨_, rfl, rfl, rfl⟩
theorem rLink_bad (h : RRel w p bw n As M) {i j : Int} (hb : (nodeB n i && nodeB n j) = false) : Ret Tryd.prog 37 [ptr p, I i, I j] w (fun v w' => v = I 2 ∧ w' = w) := by
  refine enter Tryd.call37 Tryd.func37 rfl rfl rfl rfl ?_
  (repeat first|refine zA ?_|refine zB ?_|refine zC ?_|refine zD ?_|refine zE ?_|refine zg ?_|refine zo rfl rfl (by first|exact trivial|(simp only[AllP];omega)|(simp(discharger:=omega)only[AllP,cA,cB];omega)|(simp only[AllP,cC,cD,cE,cF,cG];omega)) ?_|refine zn ?_|refine zb ?_|refine ze rfl ?_|refine zr ?_|refine zk ?_|refine zT rfl rfl rfl ?_|refine zU rfl rfl rfl ?_|refine zV rfl rfl rfl ?_|refine zf rfl ?_|refine zt rfl ?_)
  refine o_call (rnode_ret h i) rfl rfl rfl ?_
  rintro v w2 ⟨rfl, rfl⟩
  cases n1 : nodeB n i with
  | false =>
    (repeat first|refine zA ?_|refine zB ?_|refine zC ?_|refine zD ?_|refine zE ?_|refine zg ?_|refine zo rfl rfl (by first|exact trivial|(simp only[AllP];omega)|(simp(discharger:=omega)only[AllP,cA,cB];omega)|(simp only[AllP,cC,cD,cE,cF,cG];omega)) ?_|refine zn ?_|refine zb ?_|refine ze rfl ?_|refine zr ?_|refine zk ?_|refine zT rfl rfl rfl ?_|refine zU rfl rfl rfl ?_|refine zV rfl rfl rfl ?_|refine zf rfl ?_|refine zt rfl ?_)
    exact ⟨_, rfl, rfl, rfl⟩
  | true =>
    rw [n1] at hb
    (repeat first|refine zA ?_|refine zB ?_|refine zC ?_|refine zD ?_|refine zE ?_|refine zg ?_|refine zo rfl rfl (by first|exact trivial|(simp only[AllP];omega)|(simp(discharger:=omega)only[AllP,cA,cB];omega)|(simp only[AllP,cC,cD,cE,cF,cG];omega)) ?_|refine zn ?_|refine zb ?_|refine ze rfl ?_|refine zr ?_|refine zk ?_|refine zT rfl rfl rfl ?_|refine zU rfl rfl rfl ?_|refine zV rfl rfl rfl ?_|refine zf rfl ?_|refine zt rfl ?_)
    refine o_call (rnode_ret h j) rfl rfl rfl ?_
    rintro v w1 ⟨rfl, rfl⟩
    have n2 : nodeB n j = false := hb
    rw [n2]
    (repeat first|refine zA ?_|refine zB ?_|refine zC ?_|refine zD ?_|refine zE ?_|refine zg ?_|refine zo rfl rfl (by first|exact trivial|(simp only[AllP];omega)|(simp(discharger:=omega)only[AllP,cA,cB];omega)|(simp only[AllP,cC,cD,cE,cF,cG];omega)) ?_|refine zn ?_|refine zb ?_|refine ze rfl ?_|refine zr ?_|refine zk ?_|refine zT rfl rfl rfl ?_|refine zU rfl rfl rfl ?_|refine zV rfl rfl rfl ?_|refine zf rfl ?_|refine zt rfl ?_)
    exact ⟨_, rfl, rfl, rfl⟩
theorem rLink_ret (hT : TabW w) (h : RRel w p bw n As M) (hM : MOk n M) (hin : InB n M) {i j : Nat} (hi : i < n) (hj : j < n) :
    Ret Tryd.prog 37 [ptr p, I i, I j] w (fun v w' => v = I 0 ∧ ∃ As', RRTo w p bw n As w' bw As' (linkM M i j)) := by
  have hn := h.small
  refine enter Tryd.call37 Tryd.func37 rfl rfl rfl rfl ?_
  (repeat first|refine zA ?_|refine zB ?_|refine zC ?_|refine zD ?_|refine zE ?_|refine zg ?_|refine zo rfl rfl (by first|exact trivial|(simp only[AllP];omega)|(simp(discharger:=omega)only[AllP,cA,cB];omega)|(simp only[AllP,cC,cD,cE,cF,cG];omega)) ?_|refine zn ?_|refine zb ?_|refine ze rfl ?_|refine zr ?_|refine zk ?_|refine zT rfl rfl rfl ?_|refine zU rfl rfl rfl ?_|refine zV rfl rfl rfl ?_|refine zf rfl ?_|refine zt rfl ?_)
  have n1 : nodeB n (i : Int) = true := by unfold nodeB; simp; omega
  have n2 : nodeB n (j : Int) = true := by unfold nodeB; simp; omega
  refine o_call (rnode_ret h i) rfl rfl rfl ?_
  rintro v w2 ⟨rfl, rfl⟩
  rw [n1]
  (repeat first|refine zA ?_|refine zB ?_|refine zC ?_|refine zD ?_|refine zE ?_|refine zg ?_|refine zo rfl rfl (by first|exact trivial|(simp only[AllP];omega)|(simp(discharger:=omega)only[AllP,cA,cB];omega)|(simp only[AllP,cC,cD,cE,cF,cG];omega)) ?_|refine zn ?_|refine zb ?_|refine ze rfl ?_|refine zr ?_|refine zk ?_|refine zT rfl rfl rfl ?_|refine zU rfl rfl rfl ?_|refine zV rfl rfl rfl ?_|refine zf rfl ?_|refine zt rfl ?_)
  refine o_call (rnode_ret h j) rfl rfl rfl ?_
  rintro v w1 ⟨rfl, rfl⟩
  rw [n2]
  (repeat first|refine zA ?_|refine zB ?_|refine zC ?_|refine zD ?_|refine zE ?_|refine zg ?_|refine zo rfl rfl (by first|exact trivial|(simp only[AllP];omega)|(simp(discharger:=omega)only[AllP,cA,cB];omega)|(simp only[AllP,cC,cD,cE,cF,cG];omega)) ?_|refine zn ?_|refine zb ?_|refine ze rfl ?_|refine zr ?_|refine zk ?_|refine zT rfl rfl rfl ?_|refine zU rfl rfl rfl ?_|refine zV rfl rfl rfl ?_|refine zf rfl ?_|refine zt rfl ?_)
  refine r_seq ?_
  refine r_mix (fun w' => RRel w' p bw n As M) [(0, false), (1, false), (2, false), (3, false), (4, false), (5, false), (6, false), (7, false), (8, false), (9, false), (10, false), (11, false), (12, false), (13, false), (14, true), (15, false), (16, false), (17, true)] follows_mixed (by kernel_rfl) (by kernel_rfl) (by kernel_rfl) (h.sm (Sm.drew w1)) ?_
  have h2 := h.sm (Sm.drew w1)
  have hs2 := (Sm.drew w1).kp []
  generalize ({ w1 with drawn := w1.drawn + 1 } : World) = w2 at h2 hs2 ⊢
  have hcell : ∀ w', RRel w' p bw n As M → w'.cell? ⟨bw, 0 + i, none⟩ = some (.slice (As i).1 (rowsF M i).length (As i).2) := fun w' h' => by
    rw [Nat.zero_add]
    exact h'.ls.blk.cell (lsRow_get _ _ hi)
  have hlen := rowsF_len hM hn i
  have hrow := h2.ls.row i hi
  (repeat first|refine xo rfl rfl (by first|exact trivial|(simp only[AllP];omega)|(simp(discharger:=omega)only[AllP,cA,cB];omega)|(simp only[AllP,cC,cD,cE,cF,cG];omega)) ?_|refine xn ?_|refine x_know rfl _ _ (some true) rfl rfl rfl ?_|refine x_know rfl _ _ (some false) rfl rfl rfl ?_|refine x_know rfl _ _ none rfl rfl rfl ?_)
  refine x_load rfl rfl (fun w' h' => h'.hdr.cell rfl) rfl rfl rfl rfl ?_
  (repeat first|refine xo rfl rfl (by first|exact trivial|(simp only[AllP];omega)|(simp(discharger:=omega)only[AllP,cA,cB];omega)|(simp only[AllP,cC,cD,cE,cF,cG];omega)) ?_|refine xn ?_|refine x_know rfl _ _ (some true) rfl rfl rfl ?_|refine x_know rfl _ _ (some false) rfl rfl rfl ?_|refine x_know rfl _ _ none rfl rfl rfl ?_)
  refine x_load rfl rfl (fun w' h' => h'.hdr.cell rfl) rfl rfl rfl rfl ?_
  (repeat first|refine xo rfl rfl (by first|exact trivial|(simp only[AllP];omega)|(simp(discharger:=omega)only[AllP,cA,cB];omega)|(simp only[AllP,cC,cD,cE,cF,cG];omega)) ?_|refine xn ?_|refine x_know rfl _ _ (some true) rfl rfl rfl ?_|refine x_know rfl _ _ (some false) rfl rfl rfl ?_|refine x_know rfl _ _ none rfl rfl rfl ?_)
  refine x_load rfl rfl (fun w' h' => hcell w' h') rfl rfl rfl rfl ?_
  (repeat first|refine xo rfl rfl (by first|exact trivial|(simp only[AllP];omega)|(simp(discharger:=omega)only[AllP,cA,cB];omega)|(simp only[AllP,cC,cD,cE,cF,cG];omega)) ?_|refine xn ?_|refine x_know rfl _ _ (some true) rfl rfl rfl ?_|refine x_know rfl _ _ (some false) rfl rfl rfl ?_|refine x_know rfl _ _ none rfl rfl rfl ?_)
  refine x_act rfl ?_
  refine o_call (with_ret (n := j) hrow.read (rowsF_sorted i) (by omega) (by omega) (fun x hx => by have := hin _ _ (mem_rowsF.1 hx); omega)) rfl rfl rfl ?_
  rintro v w3 ⟨ad3, cap3, rfl, hn3⟩
  have h3 := h2.kp0 hn3.kp
  refine o_nil ⟨.inr h3, ?_⟩
  (repeat first|refine xo rfl rfl (by first|exact trivial|(simp only[AllP];omega)|(simp(discharger:=omega)only[AllP,cA,cB];omega)|(simp only[AllP,cC,cD,cE,cF,cG];omega)) ?_|refine xn ?_|refine x_know rfl _ _ (some true) rfl rfl rfl ?_|refine x_know rfl _ _ (some false) rfl rfl rfl ?_|refine x_know rfl _ _ none rfl rfl rfl ?_)
  refine x_act rfl ?_
  refine o_store (off := i) (v := .slice ad3 (withL (rowsF M i) j).length cap3) (c := none) ?_ h3.ls.blk (by rw [lsRow_len]; exact hi) rfl rfl rfl rfl rfl rfl ?_
  · show Value.pointer (some ⟨bw, 0 + i, none⟩) = _
    rw [Nat.zero_add]
  intro w4 hu4
  refine o_nil ⟨.inl (by kernel_rfl), ?_⟩
  (repeat first|refine xo rfl rfl (by first|exact trivial|(simp only[AllP];omega)|(simp(discharger:=omega)only[AllP,cA,cB];omega)|(simp only[AllP,cC,cD,cE,cF,cG];omega)) ?_|refine xn ?_|refine x_know rfl _ _ (some true) rfl rfl rfl ?_|refine x_know rfl _ _ (some false) rfl rfl rfl ?_|refine x_know rfl _ _ none rfl rfl rfl ?_)
  (repeat first|refine zA ?_|refine zB ?_|refine zC ?_|refine zD ?_|refine zE ?_|refine zg ?_|refine zo rfl rfl (by first|exact trivial|(simp only[AllP];omega)|(simp(discharger:=omega)only[AllP,cA,cB];omega)|(simp only[AllP,cC,cD,cE,cF,cG];omega)) ?_|refine zn ?_|refine zb ?_|refine ze rfl ?_|refine zr ?_|refine zk ?_|refine zT rfl rfl rfl ?_|refine zU rfl rfl rfl ?_|refine zV rfl rfl rfl ?_|refine zf rfl ?_|refine zt rfl ?_)
  obtain ⟨hl4, k4, hnew4⟩ := h2.ls.put (by decide) hn3.kp hi hn3.own (Kp.refl _ _) (fun b hb => .inr (hn3.new b hb)) hu4
  refine ⟨_, rfl, rfl, _, ⟨?_, hl4.congr fun a _ => (rowsF_link hM hi hj a).symm, hn, fun hm => ?_⟩, hs2.mono (S' := rrBlks p bw n As) (by simp) |>.trans (k4.mono fun b hb => ?_), fun b hb => ?_⟩
  · refine k4.blk (fun hm => ?_) h2.hdr
    refine h2.p_ls ?_
    rcases List.mem_cons.1 hm with hm | hm
    · exact mem_lsBlks.2 (.inl hm)
    · exact mem_lsBlks.2 (.inr ⟨i, hi, hm⟩)
  · rcases List.mem_cons.1 hm with e | hm
    · exact h.far (by rw [e]; simp)
    · rcases hnew4 _ hm with h1 | h1
      · exact h.far (List.mem_cons_of_mem _ h1)
      · have := hT.lt; have := hs2.size; omega
  · rcases List.mem_cons.1 hb with rfl | hb
    · exact List.mem_cons_of_mem _ (mem_lsBlks.2 (.inl rfl))
    · exact List.mem_cons_of_mem _ (mem_lsBlks.2 (.inr ⟨i, hi, hb⟩))
  · rcases hnew4 b hb with h1 | h1
    · exact .inl h1
    · have := hs2.size; exact .inr (by omega)
theorem rLinked_nil (i j : Int) : Ret Tryd.prog 40 [.pointer none, I i, I j] w (fun v w' => v = .bool false ∧ w' = w) := by
  refine enter Tryd.call40 Tryd.func40 rfl rfl rfl rfl ?_
  (repeat first|refine zA ?_|refine zB ?_|refine zC ?_|refine zD ?_|refine zE ?_|refine zg ?_|refine zo rfl rfl (by first|exact trivial|(simp only[AllP];omega)|(simp(discharger:=omega)only[AllP,cA,cB];omega)|(simp only[AllP,cC,cD,cE,cF,cG];omega)) ?_|refine zn ?_|refine zb ?_|refine ze rfl ?_|refine zr ?_|refine zk ?_|refine zT rfl rfl rfl ?_|refine zU rfl rfl rfl ?_|refine zV rfl rfl rfl ?_|refine zf rfl ?_|refine zt rfl ?_)
  refine o_call (rnode_nil i) rfl rfl rfl ?_
  rintro v w2 ⟨rfl, rfl⟩
  (repeat first|refine zA ?_|refine zB ?_|refine zC ?_|refine zD ?_|refine zE ?_|refine zg ?_|refine zo rfl rfl (by first|exact trivial|(simp only[AllP];omega)|(simp(discharger:=omega)only[AllP,cA,cB];omega)|(simp only[AllP,cC,cD,cE,cF,cG];omega)) ?_|refine zn ?_|refine zb ?_|refine ze rfl ?_|refine zr ?_|refine zk ?_|refine zT rfl rfl rfl ?_|refine zU rfl rfl rfl ?_|refine zV rfl rfl rfl ?_|refine zf rfl ?_|refine zt rfl ?_)
  exact ⟨_, rfl, rfl, rfl⟩
theorem rLinked_ret (h : RRel w p bw n As M) (hM : MOk n M) (hin : InB n M) (i j : Int) :
    Ret Tryd.prog 40 [ptr p, I i, I j] w (fun v w' => v = .bool (linkedB n M i j) ∧ w' = w) := by
  have hn := h.small
  refine enter Tryd.call40 Tryd.func40 rfl rfl rfl rfl ?_
  (repeat first|refine zA ?_|refine zB ?_|refine zC ?_|refine zD ?_|refine zE ?_|refine zg ?_|refine zo rfl rfl (by first|exact trivial|(simp only[AllP];omega)|(simp(discharger:=omega)only[AllP,cA,cB];omega)|(simp only[AllP,cC,cD,cE,cF,cG];omega)) ?_|refine zn ?_|refine zb ?_|refine ze rfl ?_|refine zr ?_|refine zk ?_|refine zT rfl rfl rfl ?_|refine zU rfl rfl rfl ?_|refine zV rfl rfl rfl ?_|refine zf rfl ?_|refine zt rfl ?_)
  refine o_call (rnode_ret h i) rfl rfl rfl ?_
  rintro v w2 ⟨rfl, rfl⟩
  cases n1 : nodeB n i with
  | false =>
    (repeat first|refine zA ?_|refine zB ?_|refine zC ?_|refine zD ?_|refine zE ?_|refine zg ?_|refine zo rfl rfl (by first|exact trivial|(simp only[AllP];omega)|(simp(discharger:=omega)only[AllP,cA,cB];omega)|(simp only[AllP,cC,cD,cE,cF,cG];omega)) ?_|refine zn ?_|refine zb ?_|refine ze rfl ?_|refine zr ?_|refine zk ?_|refine zT rfl rfl rfl ?_|refine zU rfl rfl rfl ?_|refine zV rfl rfl rfl ?_|refine zf rfl ?_|refine zt rfl ?_)
    exact ⟨_, rfl, by simp [linkedB, n1], rfl⟩
  | true =>
    obtain ⟨i, rfl, hi⟩ := nodeB_nat n1
    have hlen := rowsF_len hM hn i
    (repeat first|refine zA ?_|refine zB ?_|refine zC ?_|refine zD ?_|refine zE ?_|refine zg ?_|refine zo rfl rfl (by first|exact trivial|(simp only[AllP];omega)|(simp(discharger:=omega)only[AllP,cA,cB];omega)|(simp only[AllP,cC,cD,cE,cF,cG];omega)) ?_|refine zn ?_|refine zb ?_|refine ze rfl ?_|refine zr ?_|refine zk ?_|refine zT rfl rfl rfl ?_|refine zU rfl rfl rfl ?_|refine zV rfl rfl rfl ?_|refine zf rfl ?_|refine zt rfl ?_)
    refine o_load rfl h.hdr rfl rfl rfl rfl rfl ?_
    (repeat first|refine zA ?_|refine zB ?_|refine zC ?_|refine zD ?_|refine zE ?_|refine zg ?_|refine zo rfl rfl (by first|exact trivial|(simp only[AllP];omega)|(simp(discharger:=omega)only[AllP,cA,cB];omega)|(simp only[AllP,cC,cD,cE,cF,cG];omega)) ?_|refine zn ?_|refine zb ?_|refine ze rfl ?_|refine zr ?_|refine zk ?_|refine zT rfl rfl rfl ?_|refine zU rfl rfl rfl ?_|refine zV rfl rfl rfl ?_|refine zf rfl ?_|refine zt rfl ?_)
    refine o_load (v := .slice (As i).1 (rowsF M i).length (As i).2) rfl h.ls.blk ?_ rfl rfl rfl rfl ?_
    · show (lsRow n As (rowsF M))[0 + i]? = _
      rw [Nat.zero_add]; exact lsRow_get _ _ hi
    (repeat first|refine zA ?_|refine zB ?_|refine zC ?_|refine zD ?_|refine zE ?_|refine zg ?_|refine zo rfl rfl (by first|exact trivial|(simp only[AllP];omega)|(simp(discharger:=omega)only[AllP,cA,cB];omega)|(simp only[AllP,cC,cD,cE,cF,cG];omega)) ?_|refine zn ?_|refine zb ?_|refine ze rfl ?_|refine zr ?_|refine zk ?_|refine zT rfl rfl rfl ?_|refine zU rfl rfl rfl ?_|refine zV rfl rfl rfl ?_|refine zf rfl ?_|refine zt rfl ?_)
    refine o_call (in_ret (h.ls.row i hi).read (by omega)) rfl rfl rfl ?_
    rintro v w1 ⟨rfl, rfl⟩
    (repeat first|refine zA ?_|refine zB ?_|refine zC ?_|refine zD ?_|refine zE ?_|refine zg ?_|refine zo rfl rfl (by first|exact trivial|(simp only[AllP];omega)|(simp(discharger:=omega)only[AllP,cA,cB];omega)|(simp only[AllP,cC,cD,cE,cF,cG];omega)) ?_|refine zn ?_|refine zb ?_|refine ze rfl ?_|refine zr ?_|refine zk ?_|refine zT rfl rfl rfl ?_|refine zU rfl rfl rfl ?_|refine zV rfl rfl rfl ?_|refine zf rfl ?_|refine zt rfl ?_)
    refine ⟨_, rfl, ?_, rfl⟩
    refine congrArg Value.bool ?_
    unfold linkedB
    rw [n1, Int.toNat_natCast, Bool.eq_iff_iff, decide_eq_true_eq, Bool.and_eq_true, Bool.and_eq_true, mem_rowsF]
    constructor
    · rintro ⟨h1, h2⟩
      refine ⟨⟨rfl, ?_⟩, h2⟩
      have := hin _ _ h2
      unfold nodeB
      simp only [Bool.and_eq_true, decide_eq_true_eq]
      omega
    · rintro ⟨⟨_, h1⟩, h2⟩
      obtain ⟨k, hk, _⟩ := nodeB_nat h1
      exact ⟨by omega, h2⟩
theorem rRow_nil {i : Int} : Ret Tryd.prog 39 [.pointer none, I i] w (fun v w' => v = .tuple #[.pointer none, I 1] ∧ w' = w) := by
  refine enter Tryd.call39 Tryd.func39 rfl rfl rfl rfl ?_
  (repeat first|refine zA ?_|refine zB ?_|refine zC ?_|refine zD ?_|refine zE ?_|refine zg ?_|refine zo rfl rfl (by first|exact trivial|(simp only[AllP];omega)|(simp(discharger:=omega)only[AllP,cA,cB];omega)|(simp only[AllP,cC,cD,cE,cF,cG];omega)) ?_|refine zn ?_|refine zb ?_|refine ze rfl ?_|refine zr ?_|refine zk ?_|refine zT rfl rfl rfl ?_|refine zU rfl rfl rfl ?_|refine zV rfl rfl rfl ?_|refine zf rfl ?_|refine zt rfl ?_)
  exact ⟨_, rfl, rfl, rfl⟩
theorem rRow_bad (h : RRel w p bw n As M) {i : Int} (hb : nodeB n i = false) : Ret Tryd.prog 39 [ptr p, I i] w (fun v w' => v = .tuple #[.pointer none, I 2] ∧ w' = w) := by
  refine enter Tryd.call39 Tryd.func39 rfl rfl rfl rfl ?_
  (repeat first|refine zA ?_|refine zB ?_|refine zC ?_|refine zD ?_|refine zE ?_|refine zg ?_|refine zo rfl rfl (by first|exact trivial|(simp only[AllP];omega)|(simp(discharger:=omega)only[AllP,cA,cB];omega)|(simp only[AllP,cC,cD,cE,cF,cG];omega)) ?_|refine zn ?_|refine zb ?_|refine ze rfl ?_|refine zr ?_|refine zk ?_|refine zT rfl rfl rfl ?_|refine zU rfl rfl rfl ?_|refine zV rfl rfl rfl ?_|refine zf rfl ?_|refine zt rfl ?_)
  refine o_call (rnode_ret h i) rfl rfl rfl ?_
  rintro v w2 ⟨rfl, rfl⟩
  rw [hb]
  (repeat first|refine zA ?_|refine zB ?_|refine zC ?_|refine zD ?_|refine zE ?_|refine zg ?_|refine zo rfl rfl (by first|exact trivial|(simp only[AllP];omega)|(simp(discharger:=omega)only[AllP,cA,cB];omega)|(simp only[AllP,cC,cD,cE,cF,cG];omega)) ?_|refine zn ?_|refine zb ?_|refine ze rfl ?_|refine zr ?_|refine zk ?_|refine zT rfl rfl rfl ?_|refine zU rfl rfl rfl ?_|refine zV rfl rfl rfl ?_|refine zf rfl ?_|refine zt rfl ?_)
  exact ⟨_, rfl, rfl, rfl⟩
/-- Copy, of a set that lies in a row -/
theorem rowCopy_ret (hT : TabW w) {b off : Nat} {l : List Nat} {ad : Option Addr} {cap : Nat} (hc : w.cell? ⟨b, off, none⟩ = some (.slice ad l.length cap)) (ho : ReadS w ad (l.map encI)) (hl : l.length ≤ 16777216) :
    Ret Tryd.prog 74 [.pointer (some ⟨b, off, none⟩)] w (fun v w' => ∃ p' ad' cap', v = ptr p' ∧ NewRef w p' w' l ad' cap') := by
  refine enter Tryd.call74 Tryd.func74 rfl rfl rfl rfl ?_
  (repeat first|refine zA ?_|refine zB ?_|refine zC ?_|refine zD ?_|refine zE ?_|refine zg ?_|refine zo rfl rfl (by first|exact trivial|(simp only[AllP];omega)|(simp(discharger:=omega)only[AllP,cA,cB];omega)|(simp only[AllP,cC,cD,cE,cF,cG];omega)) ?_|refine zn ?_|refine zb ?_|refine ze rfl ?_|refine zr ?_|refine zk ?_|refine zT rfl rfl rfl ?_|refine zU rfl rfl rfl ?_|refine zV rfl rfl rfl ?_|refine zf rfl ?_|refine zt rfl ?_)
  refine o_loadc rfl hc rfl rfl rfl rfl ?_
  refine o_appendNil (l.map encI) rfl rfl ho rfl rfl rfl (by simp) (by simp [Value.oneCell', encI]) (by simp only [maxLen]; omega) (by omega) rfl rfl ?_
  intro ad2 cap2 w2 hn
  refine o_build [.slice ad2 l.length cap2] rfl rfl rfl rfl rfl rfl rfl ?_
  refine o_box rfl rfl rfl ?_
  intro p' w3 hp hu
  have hk := hn.kp.size
  have hne : p' ∉ blkOf ad2 := fun hb => by have := hn.own.lt p' hb; omega
  (repeat first|refine zA ?_|refine zB ?_|refine zC ?_|refine zD ?_|refine zE ?_|refine zg ?_|refine zo rfl rfl (by first|exact trivial|(simp only[AllP];omega)|(simp(discharger:=omega)only[AllP,cA,cB];omega)|(simp only[AllP,cC,cD,cE,cF,cG];omega)) ?_|refine zn ?_|refine zb ?_|refine ze rfl ?_|refine zr ?_|refine zk ?_|refine zT rfl rfl rfl ?_|refine zU rfl rfl rfl ?_|refine zV rfl rfl rfl ?_|refine zf rfl ?_|refine zt rfl ?_)
  refine ⟨_, rfl, p', ad2, cap2, rfl, ⟨hu.blk, hn.own.upd hu hne, ?_⟩, hn.kp.trans (hu.kp [] (.inr (by omega))), ?_⟩
  · intro hb
    rcases List.mem_cons.1 hb with hb | hb
    · have := hT.lt; omega
    · exact hn.noth hT hb
  · intro b hb
    rcases List.mem_cons.1 hb with rfl | hb
    · omega
    · exact hn.new b hb
theorem rRow_ret (hT : TabW w) (h : RRel w p bw n As M) (hM : MOk n M) {i : Nat} (hi : i < n) :
    Ret Tryd.prog 39 [ptr p, I i] w (fun v w' => ∃ q ad' cap', v = .tuple #[ptr q, I 0] ∧ NewRef w q w' (rowsF M i) ad' cap') := by
  have hn := h.small
  have hlen := rowsF_len hM hn i
  refine enter Tryd.call39 Tryd.func39 rfl rfl rfl rfl ?_
  (repeat first|refine zA ?_|refine zB ?_|refine zC ?_|refine zD ?_|refine zE ?_|refine zg ?_|refine zo rfl rfl (by first|exact trivial|(simp only[AllP];omega)|(simp(discharger:=omega)only[AllP,cA,cB];omega)|(simp only[AllP,cC,cD,cE,cF,cG];omega)) ?_|refine zn ?_|refine zb ?_|refine ze rfl ?_|refine zr ?_|refine zk ?_|refine zT rfl rfl rfl ?_|refine zU rfl rfl rfl ?_|refine zV rfl rfl rfl ?_|refine zf rfl ?_|refine zt rfl ?_)
  have n1 : nodeB n (i : Int) = true := by unfold nodeB; simp; omega
  refine o_call (rnode_ret h i) rfl rfl rfl ?_
  rintro v w2 ⟨rfl, rfl⟩
  rw [n1]
  (repeat first|refine zA ?_|refine zB ?_|refine zC ?_|refine zD ?_|refine zE ?_|refine zg ?_|refine zo rfl rfl (by first|exact trivial|(simp only[AllP];omega)|(simp(discharger:=omega)only[AllP,cA,cB];omega)|(simp only[AllP,cC,cD,cE,cF,cG];omega)) ?_|refine zn ?_|refine zb ?_|refine ze rfl ?_|refine zr ?_|refine zk ?_|refine zT rfl rfl rfl ?_|refine zU rfl rfl rfl ?_|refine zV rfl rfl rfl ?_|refine zf rfl ?_|refine zt rfl ?_)
  refine o_load rfl h.hdr rfl rfl rfl rfl rfl ?_
  (repeat first|refine zA ?_|refine zB ?_|refine zC ?_|refine zD ?_|refine zE ?_|refine zg ?_|refine zo rfl rfl (by first|exact trivial|(simp only[AllP];omega)|(simp(discharger:=omega)only[AllP,cA,cB];omega)|(simp only[AllP,cC,cD,cE,cF,cG];omega)) ?_|refine zn ?_|refine zb ?_|refine ze rfl ?_|refine zr ?_|refine zk ?_|refine zT rfl rfl rfl ?_|refine zU rfl rfl rfl ?_|refine zV rfl rfl rfl ?_|refine zf rfl ?_|refine zt rfl ?_)
  refine o_call (rowCopy_ret hT (b := bw) (off := 0 + i) (l := rowsF M i) (by rw [Nat.zero_add]; exact h.ls.blk.cell (lsRow_get _ _ hi)) (h.ls.row i hi).read (by omega)) rfl rfl rfl ?_
  rintro v w3 ⟨q, ad3, cap3, rfl, hn3⟩
  (repeat first|refine zA ?_|refine zB ?_|refine zC ?_|refine zD ?_|refine zE ?_|refine zg ?_|refine zo rfl rfl (by first|exact trivial|(simp only[AllP];omega)|(simp(discharger:=omega)only[AllP,cA,cB];omega)|(simp only[AllP,cC,cD,cE,cF,cG];omega)) ?_|refine zn ?_|refine zb ?_|refine ze rfl ?_|refine zr ?_|refine zk ?_|refine zT rfl rfl rfl ?_|refine zU rfl rfl rfl ?_|refine zV rfl rfl rfl ?_|refine zf rfl ?_|refine zt rfl ?_)
  exact ⟨_, rfl, q, ad3, cap3, rfl, hn3⟩
/-! ### Pairs -/
theorem rPairs_nil : Ret Tryd.prog 45 [.pointer none] w (fun v w' => v = .slice none 0 0 ∧ w' = w) := by
  refine enter Tryd.call45 Tryd.func45 rfl rfl rfl rfl ?_
  (repeat first|refine zA ?_|refine zB ?_|refine zC ?_|refine zD ?_|refine zE ?_|refine zg ?_|refine zo rfl rfl (by first|exact trivial|(simp only[AllP];omega)|(simp(discharger:=omega)only[AllP,cA,cB];omega)|(simp only[AllP,cC,cD,cE,cF,cG];omega)) ?_|refine zn ?_|refine zb ?_|refine ze rfl ?_|refine zr ?_|refine zk ?_|refine zT rfl rfl rfl ?_|refine zU rfl rfl rfl ?_|refine zV rfl rfl rfl ?_|refine zf rfl ?_|refine zt rfl ?_)
  refine r_loop (α := Unit) [0, 3, 4] (fun _ => [.pointer none, .slice none 0 0, I 0]) (fun _ w1 => w = w1) (fun _ => 0) () rfl rfl ?_
  rintro ⟨⟩ e w1 rfl
  (repeat first|refine zA ?_|refine zB ?_|refine zC ?_|refine zD ?_|refine zE ?_|refine zg ?_|refine zo rfl rfl (by first|exact trivial|(simp only[AllP];omega)|(simp(discharger:=omega)only[AllP,cA,cB];omega)|(simp only[AllP,cC,cD,cE,cF,cG];omega)) ?_|refine zn ?_|refine zb ?_|refine ze rfl ?_|refine zr ?_|refine zk ?_|refine zT rfl rfl rfl ?_|refine zU rfl rfl rfl ?_|refine zV rfl rfl rfl ?_|refine zf rfl ?_|refine zt rfl ?_)
  refine o_call rSize_nil rfl rfl rfl ?_
  rintro v w2 ⟨rfl, rfl⟩
  (repeat first|refine zA ?_|refine zB ?_|refine zC ?_|refine zD ?_|refine zE ?_|refine zg ?_|refine zo rfl rfl (by first|exact trivial|(simp only[AllP];omega)|(simp(discharger:=omega)only[AllP,cA,cB];omega)|(simp only[AllP,cC,cD,cE,cF,cG];omega)) ?_|refine zn ?_|refine zb ?_|refine ze rfl ?_|refine zr ?_|refine zk ?_|refine zT rfl rfl rfl ?_|refine zU rfl rfl rfl ?_|refine zV rfl rfl rfl ?_|refine zf rfl ?_|refine zt rfl ?_)
  exact ⟨_, rfl, rfl, rfl⟩
theorem rPairs_ret (h : RRel w p bw n As M) (hM : MOk n M) :
    Ret Tryd.prog 45 [ptr p] w (fun v w' => ∃ ad' cap', v = .slice ad' (flatP (pairsL n M)).length cap' ∧ NewS w 3 w' ad' (flatP (pairsL n M)).length cap' ((flatP (pairsL n M)).map encI)) := by
  have hn := h.small
  have hpl := pairsL_len n M (fun i hi => by
    obtain ⟨ws, _, h2, h3, _⟩ := hM.get hi
    rw [h2]; have : wid n ≤ 32 := by unfold wid; omega
    omega)
  have hflen : ∀ xs : List (Nat × Nat), (flatP xs).length = 2 * xs.length := flatP_len
  refine enter Tryd.call45 Tryd.func45 rfl rfl rfl rfl ?_
  (repeat first|refine zA ?_|refine zB ?_|refine zC ?_|refine zD ?_|refine zE ?_|refine zg ?_|refine zo rfl rfl (by first|exact trivial|(simp only[AllP];omega)|(simp(discharger:=omega)only[AllP,cA,cB];omega)|(simp only[AllP,cC,cD,cE,cF,cG];omega)) ?_|refine zn ?_|refine zb ?_|refine ze rfl ?_|refine zr ?_|refine zk ?_|refine zT rfl rfl rfl ?_|refine zU rfl rfl rfl ?_|refine zV rfl rfl rfl ?_|refine zf rfl ?_|refine zt rfl ?_)
  refine r_loop (α := Nat × Option Addr × Nat) [0, 3, 4] (fun g => [ptr p, .slice g.2.1 (flatP (pairsL g.1 M)).length g.2.2, I g.1]) (fun g w1 => NewS w 3 w1 g.2.1 (flatP (pairsL g.1 M)).length g.2.2 ((flatP (pairsL g.1 M)).map encI) ∧ g.1 ≤ n) (fun g => n - g.1) (0, none, 0) rfl ⟨⟨ownS_nil _ _ _, Kp.refl _ _, by simp [blkOf]⟩, by omega⟩ ?_
  rintro ⟨i, ad1, cap1⟩ e w1 ⟨hN, hi⟩
  dsimp only at hN hi ⊢
  have h1 := h.kp0 hN.kp
  (repeat first|refine zA ?_|refine zB ?_|refine zC ?_|refine zD ?_|refine zE ?_|refine zg ?_|refine zo rfl rfl (by first|exact trivial|(simp only[AllP];omega)|(simp(discharger:=omega)only[AllP,cA,cB];omega)|(simp only[AllP,cC,cD,cE,cF,cG];omega)) ?_|refine zn ?_|refine zb ?_|refine ze rfl ?_|refine zr ?_|refine zk ?_|refine zT rfl rfl rfl ?_|refine zU rfl rfl rfl ?_|refine zV rfl rfl rfl ?_|refine zf rfl ?_|refine zt rfl ?_)
  refine o_call (rSize_ret h1) rfl rfl rfl ?_
  rintro v w2 ⟨rfl, rfl⟩
  (repeat first|refine zA ?_|refine zB ?_|refine zC ?_|refine zD ?_|refine zE ?_|refine zg ?_|refine zo rfl rfl (by first|exact trivial|(simp only[AllP];omega)|(simp(discharger:=omega)only[AllP,cA,cB];omega)|(simp only[AllP,cC,cD,cE,cF,cG];omega)) ?_|refine zn ?_|refine zb ?_|refine ze rfl ?_|refine zr ?_|refine zk ?_|refine zT rfl rfl rfl ?_|refine zU rfl rfl rfl ?_|refine zV rfl rfl rfl ?_|refine zf rfl ?_|refine zt rfl ?_)
  refine r_if rfl (fun hc => ?_) (fun hc => ?_)
  rotate_left
  · have : i = n := by omega
    subst this
    (repeat first|refine zA ?_|refine zB ?_|refine zC ?_|refine zD ?_|refine zE ?_|refine zg ?_|refine zo rfl rfl (by first|exact trivial|(simp only[AllP];omega)|(simp(discharger:=omega)only[AllP,cA,cB];omega)|(simp only[AllP,cC,cD,cE,cF,cG];omega)) ?_|refine zn ?_|refine zb ?_|refine ze rfl ?_|refine zr ?_|refine zk ?_|refine zT rfl rfl rfl ?_|refine zU rfl rfl rfl ?_|refine zV rfl rfl rfl ?_|refine zf rfl ?_|refine zt rfl ?_)
    exact ⟨_, rfl, ad1, cap1, rfl, hN⟩
  have hlt : i < n := by omega
  have hlen := rowsF_len hM hn i
  obtain ⟨tail, htail⟩ := pairsL_split M hlt
  have hpi : (pairsL i M).length + (rowPairs M i).length ≤ (pairsL n M).length := by rw [htail, List.length_append, List.length_append]; omega
  have hrp : (rowPairs M i).length = (rowsF M i).length := by unfold rowPairs rowsF; simp
  (repeat first|refine zA ?_|refine zB ?_|refine zC ?_|refine zD ?_|refine zE ?_|refine zg ?_|refine zo rfl rfl (by first|exact trivial|(simp only[AllP];omega)|(simp(discharger:=omega)only[AllP,cA,cB];omega)|(simp only[AllP,cC,cD,cE,cF,cG];omega)) ?_|refine zn ?_|refine zb ?_|refine ze rfl ?_|refine zr ?_|refine zk ?_|refine zT rfl rfl rfl ?_|refine zU rfl rfl rfl ?_|refine zV rfl rfl rfl ?_|refine zf rfl ?_|refine zt rfl ?_)
  refine r_loop (α := Nat × Option Addr × Nat) [0, 3, 4, 5] (fun g => [ptr p, .slice g.2.1 (flatP (pairsL i M ++ (rowPairs M i).take g.1)).length g.2.2, I i, I g.1]) (fun g w3 => NewS w 3 w3 g.2.1 (flatP (pairsL i M ++ (rowPairs M i).take g.1)).length g.2.2 ((flatP (pairsL i M ++ (rowPairs M i).take g.1)).map encI) ∧ g.1 ≤ (rowsF M i).length) (fun g => (rowsF M i).length - g.1) (0, ad1, cap1) ?_ ⟨?_, by omega⟩ ?_
  · rw [List.take_zero, List.append_nil]; rfl
  · rw [List.take_zero, List.append_nil]; exact hN
  rintro ⟨k, ad3, cap3⟩ e w3 ⟨hN3, hk⟩
  dsimp only at hN3 hk ⊢
  have h3 := h.kp0 hN3.kp
  (repeat first|refine zA ?_|refine zB ?_|refine zC ?_|refine zD ?_|refine zE ?_|refine zg ?_|refine zo rfl rfl (by first|exact trivial|(simp only[AllP];omega)|(simp(discharger:=omega)only[AllP,cA,cB];omega)|(simp only[AllP,cC,cD,cE,cF,cG];omega)) ?_|refine zn ?_|refine zb ?_|refine ze rfl ?_|refine zr ?_|refine zk ?_|refine zT rfl rfl rfl ?_|refine zU rfl rfl rfl ?_|refine zV rfl rfl rfl ?_|refine zf rfl ?_|refine zt rfl ?_)
  refine o_load rfl h3.hdr rfl rfl rfl rfl rfl ?_
  (repeat first|refine zA ?_|refine zB ?_|refine zC ?_|refine zD ?_|refine zE ?_|refine zg ?_|refine zo rfl rfl (by first|exact trivial|(simp only[AllP];omega)|(simp(discharger:=omega)only[AllP,cA,cB];omega)|(simp only[AllP,cC,cD,cE,cF,cG];omega)) ?_|refine zn ?_|refine zb ?_|refine ze rfl ?_|refine zr ?_|refine zk ?_|refine zT rfl rfl rfl ?_|refine zU rfl rfl rfl ?_|refine zV rfl rfl rfl ?_|refine zf rfl ?_|refine zt rfl ?_)
  refine o_load (v := .slice (As i).1 (rowsF M i).length (As i).2) rfl h3.ls.blk ?_ rfl rfl rfl rfl ?_
  · show (lsRow n As (rowsF M))[0 + i]? = _
    rw [Nat.zero_add]; exact lsRow_get _ _ hlt
  (repeat first|refine zA ?_|refine zB ?_|refine zC ?_|refine zD ?_|refine zE ?_|refine zg ?_|refine zo rfl rfl (by first|exact trivial|(simp only[AllP];omega)|(simp(discharger:=omega)only[AllP,cA,cB];omega)|(simp only[AllP,cC,cD,cE,cF,cG];omega)) ?_|refine zn ?_|refine zb ?_|refine ze rfl ?_|refine zr ?_|refine zk ?_|refine zT rfl rfl rfl ?_|refine zU rfl rfl rfl ?_|refine zV rfl rfl rfl ?_|refine zf rfl ?_|refine zt rfl ?_)
  refine r_if rfl (fun hc2 => ?_) (fun hc2 => ?_)
  · have hkl : k < (rowsF M i).length := by omega
    obtain ⟨x, hx⟩ : ∃ x, (rowsF M i)[k]? = some x := ⟨_, List.getElem?_eq_getElem hkl⟩
    have hxp : (rowPairs M i)[k]? = some (i, x) := by
      unfold rowPairs
      rw [List.getElem?_map]
      have : (elems (M.getD i []))[k]? = some x := hx
      rw [this]; rfl
    have htk : (rowPairs M i).take (k + 1) = (rowPairs M i).take k ++ [(i, x)] := by rw [List.take_add_one, hxp]; rfl
    obtain ⟨br, orr, hAe, _, hcr⟩ := (h3.ls.row i hlt).read.at_ (by simp; omega)
    (repeat first|refine zA ?_|refine zB ?_|refine zC ?_|refine zD ?_|refine zE ?_|refine zg ?_|refine zo rfl rfl (by first|exact trivial|(simp only[AllP];omega)|(simp(discharger:=omega)only[AllP,cA,cB];omega)|(simp only[AllP,cC,cD,cE,cF,cG];omega)) ?_|refine zn ?_|refine zb ?_|refine ze rfl ?_|refine zr ?_|refine zk ?_|refine zT rfl rfl rfl ?_|refine zU rfl rfl rfl ?_|refine zV rfl rfl rfl ?_|refine zf rfl ?_|refine zt rfl ?_)
    refine o_load rfl h3.hdr rfl rfl rfl rfl rfl ?_
    (repeat first|refine zA ?_|refine zB ?_|refine zC ?_|refine zD ?_|refine zE ?_|refine zg ?_|refine zo rfl rfl (by first|exact trivial|(simp only[AllP];omega)|(simp(discharger:=omega)only[AllP,cA,cB];omega)|(simp only[AllP,cC,cD,cE,cF,cG];omega)) ?_|refine zn ?_|refine zb ?_|refine ze rfl ?_|refine zr ?_|refine zk ?_|refine zT rfl rfl rfl ?_|refine zU rfl rfl rfl ?_|refine zV rfl rfl rfl ?_|refine zf rfl ?_|refine zt rfl ?_)
    refine o_load (v := .slice (As i).1 (rowsF M i).length (As i).2) rfl h3.ls.blk ?_ rfl rfl rfl rfl ?_
    · show (lsRow n As (rowsF M))[0 + i]? = _
      rw [Nat.zero_add]; exact lsRow_get _ _ hlt
    rw [hAe]
    (repeat first|refine zA ?_|refine zB ?_|refine zC ?_|refine zD ?_|refine zE ?_|refine zg ?_|refine zo rfl rfl (by first|exact trivial|(simp only[AllP];omega)|(simp(discharger:=omega)only[AllP,cA,cB];omega)|(simp only[AllP,cC,cD,cE,cF,cG];omega)) ?_|refine zn ?_|refine zb ?_|refine ze rfl ?_|refine zr ?_|refine zk ?_|refine zT rfl rfl rfl ?_|refine zU rfl rfl rfl ?_|refine zV rfl rfl rfl ?_|refine zf rfl ?_|refine zt rfl ?_)
    refine o_loadc (v := I (x : Int)) rfl (hcr k _ (by rw [List.getElem?_map, hx]; rfl)) rfl rfl rfl rfl ?_
    (repeat first|refine zA ?_|refine zB ?_|refine zC ?_|refine zD ?_|refine zE ?_|refine zg ?_|refine zo rfl rfl (by first|exact trivial|(simp only[AllP];omega)|(simp(discharger:=omega)only[AllP,cA,cB];omega)|(simp only[AllP,cC,cD,cE,cF,cG];omega)) ?_|refine zn ?_|refine zb ?_|refine ze rfl ?_|refine zr ?_|refine zk ?_|refine zT rfl rfl rfl ?_|refine zU rfl rfl rfl ?_|refine zV rfl rfl rfl ?_|refine zf rfl ?_|refine zt rfl ?_)
    refine o_buildSlice [I (i : Int), I (x : Int)] rfl (by simp [Value.oneCell']) rfl (by decide) (by decide) rfl rfl rfl rfl rfl ?_
    intro b4 w4 hb4 hu4
    have k4 : Kp [] w3 w4 := hu4.kp [] (.inr (by omega))
    have hfl := hflen (pairsL i M ++ (rowPairs M i).take k)
    have hfl2 : (pairsL i M ++ (rowPairs M i).take k).length ≤ 4194304 := by simp; omega
    refine o_append (ay := ⟨b4, 0, none⟩) (m := 2) [I (i : Int), I (x : Int)] rfl rfl (hN3.own.kp k4 (by simp)) ?_ rfl rfl rfl (by omega) (by simp) (by omega) (by simp [Value.oneCell']) (by simp only [maxLen]; omega) (by omega) rfl rfl ?_
    · intro j v hv
      rw [addr_lit, Nat.zero_add]; exact hu4.blk.cell hv
    intro ad5 cap5 w5 ho5 k5 hnew5
    (repeat first|refine zA ?_|refine zB ?_|refine zC ?_|refine zD ?_|refine zE ?_|refine zg ?_|refine zo rfl rfl (by first|exact trivial|(simp only[AllP];omega)|(simp(discharger:=omega)only[AllP,cA,cB];omega)|(simp only[AllP,cC,cD,cE,cF,cG];omega)) ?_|refine zn ?_|refine zb ?_|refine ze rfl ?_|refine zr ?_|refine zk ?_|refine zT rfl rfl rfl ?_|refine zU rfl rfl rfl ?_|refine zV rfl rfl rfl ?_|refine zf rfl ?_|refine zt rfl ?_)
    have hfs : flatP (pairsL i M ++ (rowPairs M i).take (k + 1)) = flatP (pairsL i M ++ (rowPairs M i).take k) ++ [i, x] := by
      rw [htk, ← List.append_assoc, flatP_snoc]
    refine ⟨(k + 1, ad5, cap5), ?_, ⟨⟨?_, (hN3.kp.trans k4).since k5 hN3.new, fun b hb => ?_⟩, by dsimp only; omega⟩, by dsimp only; omega⟩
    · dsimp only; rw [hfs, List.length_append]; rfl
    · dsimp only; rw [hfs, List.length_append, List.map_append]; exact ho5
    · rcases hnew5 b hb with h5 | h5
      · exact hN3.new b h5
      · have := hN3.kp.size; have := hu4.size; omega
  · have hke : k = (rowsF M i).length := by omega
    have hps : pairsL i M ++ (rowPairs M i).take k = pairsL (i + 1) M := by
      rw [pairsL_succ, List.take_of_length_le (by omega)]
    rw [hps] at hN3 ⊢
    (repeat first|refine zA ?_|refine zB ?_|refine zC ?_|refine zD ?_|refine zE ?_|refine zg ?_|refine zo rfl rfl (by first|exact trivial|(simp only[AllP];omega)|(simp(discharger:=omega)only[AllP,cA,cB];omega)|(simp only[AllP,cC,cD,cE,cF,cG];omega)) ?_|refine zn ?_|refine zb ?_|refine ze rfl ?_|refine zr ?_|refine zk ?_|refine zT rfl rfl rfl ?_|refine zU rfl rfl rfl ?_|refine zV rfl rfl rfl ?_|refine zf rfl ?_|refine zt rfl ?_)
    exact ⟨(i + 1, ad3, cap3), rfl, ⟨hN3, by dsimp only; omega⟩, by dsimp only; omega⟩
end
end Go.Vc
