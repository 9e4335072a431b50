/- bits: relations: Turned, Close. -/
import Derived.Test.YtdfkhnhmcanncaaDoorBt21
namespace Go.Vc
open Go Go.Proofs
set_option maxRecDepth 10000
variable {w : World}

section
variable {p n : Nat} {bs : List Nat} {M : List (List Nat)} {ad : Option Addr} {cap : Nat}
theorem RelAt.nc {B : Nat} {w' : World} (h : RelAt w p n bs M ad cap) (hn : Nc B w w') : RelAt w' p n bs M ad cap :=
  ⟨hn.blk h.hdr, hn.own h.own, h.nb, h.nM, h.small, fun i b ws h1 h2 => ⟨hn.blk (h.row i b ws h1 h2).1, (h.row i b ws h1 h2).2⟩, h.nodup, h.far⟩
theorem RelAt.typed (h : RelAt w p n bs M ad cap) : ∀ b, b ∈ relBlks p ad bs → ∃ l T, Blk w b l T := by
  intro b hb
  rcases List.mem_cons.1 hb with rfl | hb
  · exact ⟨_, _, h.hdr⟩
  · rcases List.mem_append.1 hb with hb | hb
    · obtain ⟨l, hl⟩ := h.ad_blk hb; exact ⟨l, _, hl⟩
    · obtain ⟨i, hi⟩ := List.getElem?_of_mem hb
      have hlt : i < n := by rw [← h.nb]; exact (List.getElem?_eq_some_iff.1 hi).1
      obtain ⟨b', ws, h1, _, h3, _⟩ := h.at_row hlt
      rw [hi] at h1; cases h1; exact ⟨_, _, h3⟩
/-- each link stays among the nodes -/
def InB (n : Nat) (M : List (List Nat)) : Prop := ∀ i j, bitM M i j = true → j < n
def turnedM (n : Nat) (xs : List (Nat × Nat)) : List (List Nat) := xs.foldl (fun T x => linkM T x.2 x.1) (zeroM n)
theorem mem_pairsL {n : Nat} {M : List (List Nat)} {i j : Nat} : (i, j) ∈ pairsL n M ↔ i < n ∧ bitM M i j = true := by
  unfold pairsL rowPairs
  rw [List.mem_flatMap]
  constructor
  · rintro ⟨k, hk, h⟩
    obtain ⟨j', hj', he⟩ := List.mem_map.1 h
    cases he
    exact ⟨by simpa using hk, mem_elems.1 hj'⟩
  · rintro ⟨h1, h2⟩
    exact ⟨i, by simpa using h1, List.mem_map.2 ⟨j, mem_elems.2 h2, rfl⟩⟩
theorem pairsL_len (n : Nat) (M : List (List Nat)) (h : ∀ i, i < n → (M.getD i []).length ≤ 32) : (pairsL n M).length ≤ n * 2048 := by
  induction n with
  | zero => simp [pairsL]
  | succ n ih =>
    rw [pairsL_succ, List.length_append]
    have h1 := ih (fun i hi => h i (by omega))
    have h2 := h n (by omega)
    have h3 := elems_len (M.getD n [])
    unfold rowPairs
    rw [List.length_map]; omega
theorem RelAt.rowlen (h : RelAt w p n bs M ad cap) (i : Nat) (hi : i < n) : (M.getD i []).length ≤ 32 := by
  obtain ⟨b, ws, _, h2, _, h4, _⟩ := h.at_row hi
  rw [List.getD_eq_getElem?_getD, h2]
  have := h.small
  have : wid n ≤ 32 := by unfold wid; omega
  simp; omega
theorem Turned_nil : Ret Tryd.prog 30 [.pointer none] w (fun v w' => v = .pointer none ∧ w' = w) := by
  refine enterM Tryd.call30 Tryd.func30 rfl rfl rfl rfl ?_
  refine m_seq (m_of ?_)
  (repeat first|refine zA ?_|refine zB ?_|refine zC ?_|refine zD ?_|refine zE ?_|refine zg ?_|refine zo rfl rfl (by first|exact trivial|(simp only[AllP];omega)|(simp(discharger:=omega)only[AllP,cA,cB];omega)|(simp only[AllP,cC,cD,cE,cF,cG];omega)) ?_|refine zn ?_|refine zb ?_|refine ze rfl ?_|refine zr ?_|refine zk ?_|refine zT rfl rfl rfl ?_|refine zU rfl rfl rfl ?_|refine zV rfl rfl rfl ?_|refine zf rfl ?_|refine zt rfl ?_)
  refine m_seq (m_of ?_)
  (repeat first|refine zA ?_|refine zB ?_|refine zC ?_|refine zD ?_|refine zE ?_|refine zg ?_|refine zo rfl rfl (by first|exact trivial|(simp only[AllP];omega)|(simp(discharger:=omega)only[AllP,cA,cB];omega)|(simp only[AllP,cC,cD,cE,cF,cG];omega)) ?_|refine zn ?_|refine zb ?_|refine ze rfl ?_|refine zr ?_|refine zk ?_|refine zT rfl rfl rfl ?_|refine zU rfl rfl rfl ?_|refine zV rfl rfl rfl ?_|refine zf rfl ?_|refine zt rfl ?_)
  refine o_call rthere_nil rfl rfl rfl ?_
  rintro v w1 ⟨rfl, rfl⟩
  (repeat first|refine zA ?_|refine zB ?_|refine zC ?_|refine zD ?_|refine zE ?_|refine zg ?_|refine zo rfl rfl (by first|exact trivial|(simp only[AllP];omega)|(simp(discharger:=omega)only[AllP,cA,cB];omega)|(simp only[AllP,cC,cD,cE,cF,cG];omega)) ?_|refine zn ?_|refine zb ?_|refine ze rfl ?_|refine zr ?_|refine zk ?_|refine zT rfl rfl rfl ?_|refine zU rfl rfl rfl ?_|refine zV rfl rfl rfl ?_|refine zf rfl ?_|refine zt rfl ?_)
  exact ⟨_, rfl, rfl, rfl⟩
theorem Turned_ret (hT : TabW w) (h : RelAt w p n bs M ad cap) (hin : InB n M) :
    Ret Tryd.prog 30 [ptr p] w (fun v w' => ∃ q bs' ad' cap', v = ptr q ∧ NewRel w q n w' bs' (turnedM n (pairsL n M)) ad' cap') := by
  have hn := h.small
  refine enterM Tryd.call30 Tryd.func30 rfl rfl rfl rfl ?_
  refine m_seq (m_of ?_)
  (repeat first|refine zA ?_|refine zB ?_|refine zC ?_|refine zD ?_|refine zE ?_|refine zg ?_|refine zo rfl rfl (by first|exact trivial|(simp only[AllP];omega)|(simp(discharger:=omega)only[AllP,cA,cB];omega)|(simp only[AllP,cC,cD,cE,cF,cG];omega)) ?_|refine zn ?_|refine zb ?_|refine ze rfl ?_|refine zr ?_|refine zk ?_|refine zT rfl rfl rfl ?_|refine zU rfl rfl rfl ?_|refine zV rfl rfl rfl ?_|refine zf rfl ?_|refine zt rfl ?_)
  refine m_seq (m_of ?_)
  (repeat first|refine zA ?_|refine zB ?_|refine zC ?_|refine zD ?_|refine zE ?_|refine zg ?_|refine zo rfl rfl (by first|exact trivial|(simp only[AllP];omega)|(simp(discharger:=omega)only[AllP,cA,cB];omega)|(simp only[AllP,cC,cD,cE,cF,cG];omega)) ?_|refine zn ?_|refine zb ?_|refine ze rfl ?_|refine zr ?_|refine zk ?_|refine zT rfl rfl rfl ?_|refine zU rfl rfl rfl ?_|refine zV rfl rfl rfl ?_|refine zf rfl ?_|refine zt rfl ?_)
  refine o_call (rthere_ret h) rfl rfl rfl ?_
  rintro v w1 ⟨rfl, rfl⟩
  (repeat first|refine zA ?_|refine zB ?_|refine zC ?_|refine zD ?_|refine zE ?_|refine zg ?_|refine zo rfl rfl (by first|exact trivial|(simp only[AllP];omega)|(simp(discharger:=omega)only[AllP,cA,cB];omega)|(simp only[AllP,cC,cD,cE,cF,cG];omega)) ?_|refine zn ?_|refine zb ?_|refine ze rfl ?_|refine zr ?_|refine zk ?_|refine zT rfl rfl rfl ?_|refine zU rfl rfl rfl ?_|refine zV rfl rfl rfl ?_|refine zf rfl ?_|refine zt rfl ?_)
  refine m_seq (m_of ?_)
  (repeat first|refine zA ?_|refine zB ?_|refine zC ?_|refine zD ?_|refine zE ?_|refine zg ?_|refine zo rfl rfl (by first|exact trivial|(simp only[AllP];omega)|(simp(discharger:=omega)only[AllP,cA,cB];omega)|(simp only[AllP,cC,cD,cE,cF,cG];omega)) ?_|refine zn ?_|refine zb ?_|refine ze rfl ?_|refine zr ?_|refine zk ?_|refine zT rfl rfl rfl ?_|refine zU rfl rfl rfl ?_|refine zV rfl rfl rfl ?_|refine zf rfl ?_|refine zt rfl ?_)
  refine o_load rfl h.hdr rfl rfl rfl rfl rfl ?_
  (repeat first|refine zA ?_|refine zB ?_|refine zC ?_|refine zD ?_|refine zE ?_|refine zg ?_|refine zo rfl rfl (by first|exact trivial|(simp only[AllP];omega)|(simp(discharger:=omega)only[AllP,cA,cB];omega)|(simp only[AllP,cC,cD,cE,cF,cG];omega)) ?_|refine zn ?_|refine zb ?_|refine ze rfl ?_|refine zr ?_|refine zk ?_|refine zT rfl rfl rfl ?_|refine zU rfl rfl rfl ?_|refine zV rfl rfl rfl ?_|refine zf rfl ?_|refine zt rfl ?_)
  refine o_call (NewRelation_ret hT hn) rfl rfl rfl ?_
  rintro v w2 ⟨q, bs2, ad2, cap2, rfl, hnr⟩
  (repeat first|refine zA ?_|refine zB ?_|refine zC ?_|refine zD ?_|refine zE ?_|refine zg ?_|refine zo rfl rfl (by first|exact trivial|(simp only[AllP];omega)|(simp(discharger:=omega)only[AllP,cA,cB];omega)|(simp only[AllP,cC,cD,cE,cF,cG];omega)) ?_|refine zn ?_|refine zb ?_|refine ze rfl ?_|refine zr ?_|refine zk ?_|refine zT rfl rfl rfl ?_|refine zU rfl rfl rfl ?_|refine zV rfl rfl rfl ?_|refine zf rfl ?_|refine zt rfl ?_)
  refine o_alloc rfl rfl rfl rfl ?_
  intro b3 w3 hb3 hu3
  (repeat first|refine zA ?_|refine zB ?_|refine zC ?_|refine zD ?_|refine zE ?_|refine zg ?_|refine zo rfl rfl (by first|exact trivial|(simp only[AllP];omega)|(simp(discharger:=omega)only[AllP,cA,cB];omega)|(simp only[AllP,cC,cD,cE,cF,cG];omega)) ?_|refine zn ?_|refine zb ?_|refine ze rfl ?_|refine zr ?_|refine zk ?_|refine zT rfl rfl rfl ?_|refine zU rfl rfl rfl ?_|refine zV rfl rfl rfl ?_|refine zf rfl ?_|refine zt rfl ?_)
  refine o_store rfl hu3.blk (by decide) rfl rfl rfl rfl rfl rfl ?_
  intro w4 hu4
  have k3 : Kp [] w2 w3 := hu3.kp [] (.inr (by omega))
  have k4 : Kp [] w2 w4 := k3.since (hu4.kp [b3] (.inl (by simp))) (by simp; omega)
  have kk4 := hnr.kp.trans k4
  have hT4 := hT.kp kk4 (by simp)
  have h4 := h.kp0 kk4
  have r4 := hnr.at_.kp0 k4
  (repeat first|refine zA ?_|refine zB ?_|refine zC ?_|refine zD ?_|refine zE ?_|refine zg ?_|refine zo rfl rfl (by first|exact trivial|(simp only[AllP];omega)|(simp(discharger:=omega)only[AllP,cA,cB];omega)|(simp only[AllP,cC,cD,cE,cF,cG];omega)) ?_|refine zn ?_|refine zb ?_|refine ze rfl ?_|refine zr ?_|refine zk ?_|refine zT rfl rfl rfl ?_|refine zU rfl rfl rfl ?_|refine zV rfl rfl rfl ?_|refine zf rfl ?_|refine zt rfl ?_)
  refine m_seq (m_seq (m_of ?_))
  (repeat first|refine zA ?_|refine zB ?_|refine zC ?_|refine zD ?_|refine zE ?_|refine zg ?_|refine zo rfl rfl (by first|exact trivial|(simp only[AllP];omega)|(simp(discharger:=omega)only[AllP,cA,cB];omega)|(simp only[AllP,cC,cD,cE,cF,cG];omega)) ?_|refine zn ?_|refine zb ?_|refine ze rfl ?_|refine zr ?_|refine zk ?_|refine zT rfl rfl rfl ?_|refine zU rfl rfl rfl ?_|refine zV rfl rfl rfl ?_|refine zf rfl ?_|refine zt rfl ?_)
  refine o_call (Pairs_ret hT4 h4) rfl rfl rfl ?_
  rintro v w5 ⟨Fp, hseq, k5, hnew⟩
  obtain ⟨f, lb, rfl, hI⟩ := hseq.is
  have hs3 := hu3.size
  have hl3 := hu3.lt
  have hs4 := k4.size
  have hs5 := k5.size
  have hb4lt := hu4.lt
  have kall : Kp [] w1 w5 := kk4.trans k5
  have r5 := r4.kp0 k5
  have hb5 : Blk w5 b3 [ptr q] 51 := k5.blk (by simp) hu4.blk
  have hrlt := r4.lt
  (repeat first|refine zA ?_|refine zB ?_|refine zC ?_|refine zD ?_|refine zE ?_|refine zg ?_|refine zo rfl rfl (by first|exact trivial|(simp only[AllP];omega)|(simp(discharger:=omega)only[AllP,cA,cB];omega)|(simp only[AllP,cC,cD,cE,cF,cG];omega)) ?_|refine zn ?_|refine zb ?_|refine ze rfl ?_|refine zr ?_|refine zk ?_|refine zT rfl rfl rfl ?_|refine zU rfl rfl rfl ?_|refine zV rfl rfl rfl ?_|refine zf rfl ?_|refine zt rfl ?_)
  refine m_block ?_
  have hfp : ∀ b, b ∈ relBlks q ad2 bs2 → b ∉ (0 :: Fp) := fun b hb hm => by
    rcases List.mem_cons.1 hm with rfl | hm
    · exact hnr.at_.far hb
    · have := hnew b hm; have := hrlt b hb; omega
  refine m_range hI [3] (fun pre W => Blk W b3 [ptr q] 51 ∧ NewRel w1 q n W bs2 (turnedM n pre) ad2 cap2) (fun c pre W => False) rfl rfl (fun _ => rfl) ?_ ?_ ?_ ?_ ?_ ?_
  · rintro pre W1 W2 ⟨hb, hr⟩ hnc
    exact ⟨hnc.blk hb, hr.at_.nc hnc, hnc.kp hr.kp kall.size, hr.new⟩
  · intro c pre W1 W2 hf; exact hf.elim
  · exact ⟨hb5, r5, kall, hnr.new⟩
  · intro D l r pre x post W hx' hD hl
    (repeat first|refine zA ?_|refine zB ?_|refine zC ?_|refine zD ?_|refine zE ?_|refine zg ?_|refine zo rfl rfl (by first|exact trivial|(simp only[AllP];omega)|(simp(discharger:=omega)only[AllP,cA,cB];omega)|(simp only[AllP,cC,cD,cE,cF,cG];omega)) ?_|refine zn ?_|refine zb ?_|refine ze rfl ?_|refine zr ?_|refine zk ?_|refine zT rfl rfl rfl ?_|refine zU rfl rfl rfl ?_|refine zV rfl rfl rfl ?_|refine zf rfl ?_|refine zt rfl ?_)
    refine ⟨rfl, ?_⟩
    rintro W2 ⟨hb, hr⟩ hkeep
    have hmem : (x.1, x.2) ∈ pairsL n M := by rw [hx']; simp
    obtain ⟨hx1, hx2⟩ := mem_pairsL.1 hmem
    have hx3 := hin _ _ hx2
    (repeat first|refine zA ?_|refine zB ?_|refine zC ?_|refine zD ?_|refine zE ?_|refine zg ?_|refine zo rfl rfl (by first|exact trivial|(simp only[AllP];omega)|(simp(discharger:=omega)only[AllP,cA,cB];omega)|(simp only[AllP,cC,cD,cE,cF,cG];omega)) ?_|refine zn ?_|refine zb ?_|refine ze rfl ?_|refine zr ?_|refine zk ?_|refine zT rfl rfl rfl ?_|refine zU rfl rfl rfl ?_|refine zV rfl rfl rfl ?_|refine zf rfl ?_|refine zt rfl ?_)
    refine o_load rfl hb rfl rfl rfl rfl rfl ?_
    (repeat first|refine zA ?_|refine zB ?_|refine zC ?_|refine zD ?_|refine zE ?_|refine zg ?_|refine zo rfl rfl (by first|exact trivial|(simp only[AllP];omega)|(simp(discharger:=omega)only[AllP,cA,cB];omega)|(simp only[AllP,cC,cD,cE,cF,cG];omega)) ?_|refine zn ?_|refine zb ?_|refine ze rfl ?_|refine zr ?_|refine zk ?_|refine zT rfl rfl rfl ?_|refine zU rfl rfl rfl ?_|refine zV rfl rfl rfl ?_|refine zf rfl ?_|refine zt rfl ?_)
    refine o_call (Link_ret hr.at_ hx3 hx1) rfl rfl rfl ?_
    rintro v W3 ⟨rfl, hto⟩
    have hb3r : b3 ∉ relBlks q ad2 bs2 := fun hm => by have := hnr.at_.lt b3 hm; omega
    (repeat first|refine zA ?_|refine zB ?_|refine zC ?_|refine zD ?_|refine zE ?_|refine zg ?_|refine zo rfl rfl (by first|exact trivial|(simp only[AllP];omega)|(simp(discharger:=omega)only[AllP,cA,cB];omega)|(simp only[AllP,cC,cD,cE,cF,cG];omega)) ?_|refine zn ?_|refine zb ?_|refine ze rfl ?_|refine zr ?_|refine zk ?_|refine zT rfl rfl rfl ?_|refine zU rfl rfl rfl ?_|refine zV rfl rfl rfl ?_|refine zf rfl ?_|refine zt rfl ?_)
    refine ⟨⟨hto.kp.blk hb3r hb, ?_⟩, ?_⟩
    · have e1 : turnedM n (pre ++ [x]) = linkM (turnedM n pre) x.2 x.1 := by unfold turnedM; rw [List.foldl_append]; rfl
      rw [e1]
      exact hr.to hto
    · have hty := hr.at_.typed
      refine hkeep.kp (fun b hb' => ?_) hto.kp ?_ ?_ ?_
      · have := hI.1 b hb'; have h2 : w5.heap.size < W2.heap.size := by
          have := (Array.getElem?_eq_some_iff.1 hkeep.shut).1; omega
        omega
      · intro hm
        obtain ⟨L, T, hB⟩ := hty _ hm
        exact (hkeep.ne hB).1 rfl
      · intro hm
        obtain ⟨L, T, hB⟩ := hty _ hm
        exact (hkeep.ne hB).2 rfl
      · intro b hb' hm; exact hfp b hm hb'
  · rintro D W hD ⟨hb, hr⟩ hsh
    refine m_of ?_
    (repeat first|refine zA ?_|refine zB ?_|refine zC ?_|refine zD ?_|refine zE ?_|refine zg ?_|refine zo rfl rfl (by first|exact trivial|(simp only[AllP];omega)|(simp(discharger:=omega)only[AllP,cA,cB];omega)|(simp only[AllP,cC,cD,cE,cF,cG];omega)) ?_|refine zn ?_|refine zb ?_|refine ze rfl ?_|refine zr ?_|refine zk ?_|refine zT rfl rfl rfl ?_|refine zU rfl rfl rfl ?_|refine zV rfl rfl rfl ?_|refine zf rfl ?_|refine zt rfl ?_)
    refine o_load rfl hb rfl rfl rfl rfl rfl ?_
    (repeat first|refine zA ?_|refine zB ?_|refine zC ?_|refine zD ?_|refine zE ?_|refine zg ?_|refine zo rfl rfl (by first|exact trivial|(simp only[AllP];omega)|(simp(discharger:=omega)only[AllP,cA,cB];omega)|(simp only[AllP,cC,cD,cE,cF,cG];omega)) ?_|refine zn ?_|refine zb ?_|refine ze rfl ?_|refine zr ?_|refine zk ?_|refine zT rfl rfl rfl ?_|refine zU rfl rfl rfl ?_|refine zV rfl rfl rfl ?_|refine zf rfl ?_|refine zt rfl ?_)
    refine ⟨_, rfl, hsh, ?_⟩
    intro W' hu
    have hnc : Nc w5.heap.size W W' := hu.nc (by omega) (fun x hx => by rw [hsh] at hx; cases hx; rfl)
    exact ⟨q, bs2, ad2, cap2, rfl, hr.at_.nc hnc, hnc.kp hr.kp kall.size, hr.new⟩
  · intro D c pre post W _ _ _ hf _
    exact hf.elim

/-! ### Close -/
def orRow (a b : List Nat) : List Nat := updW (· ||| ·) a b b.length
def stepK (n : Nat) (M : List (List Nat)) (k : Nat) (m : Nat) : List (List Nat) := (List.range m).foldl (fun T i => if bitM T i k then T.set i (orRow (T.getD i []) (T.getD k [])) else T) M
def closeTo (n : Nat) (M : List (List Nat)) (m : Nat) : List (List Nat) := (List.range m).foldl (fun T k => stepK n T k n) M
def closeM (n : Nat) (M : List (List Nat)) : List (List Nat) := closeTo n M n
theorem stepK_succ (n : Nat) (M : List (List Nat)) (k m : Nat) : stepK n M k (m + 1) = if bitM (stepK n M k m) m k then (stepK n M k m).set m (orRow ((stepK n M k m).getD m []) ((stepK n M k m).getD k [])) else stepK n M k m := by
  unfold stepK; rw [List.range_succ, List.foldl_append]; rfl
theorem closeTo_succ (n : Nat) (M : List (List Nat)) (m : Nat) : closeTo n M (m + 1) = stepK n (closeTo n M m) m n := by
  unfold closeTo; rw [List.range_succ, List.foldl_append]; rfl
theorem set_self {M : List (List Nat)} {i : Nat} {ws : List Nat} (h : M[i]? = some ws) : M.set i ws = M := by
  apply List.ext_getElem?
  intro j
  rw [List.getElem?_set]
  split
  · rename_i e; subst e
    split
    · exact h.symm
    · rename_i hl; rw [List.getElem?_eq_none (by omega)]
  · rfl
theorem Close_nil : Ret Tryd.prog 31 [.pointer none] w (fun v w' => v = I 1 ∧ w' = w) := by
  refine enter Tryd.call31 Tryd.func31 rfl rfl rfl rfl ?_
  (repeat first|refine zA ?_|refine zB ?_|refine zC ?_|refine zD ?_|refine zE ?_|refine zg ?_|refine zo rfl rfl (by first|exact trivial|(simp only[AllP];omega)|(simp(discharger:=omega)only[AllP,cA,cB];omega)|(simp only[AllP,cC,cD,cE,cF,cG];omega)) ?_|refine zn ?_|refine zb ?_|refine ze rfl ?_|refine zr ?_|refine zk ?_|refine zT rfl rfl rfl ?_|refine zU rfl rfl rfl ?_|refine zV rfl rfl rfl ?_|refine zf rfl ?_|refine zt rfl ?_)
  refine o_call rthere_nil rfl rfl rfl ?_
  rintro v w1 ⟨rfl, rfl⟩
  (repeat first|refine zA ?_|refine zB ?_|refine zC ?_|refine zD ?_|refine zE ?_|refine zg ?_|refine zo rfl rfl (by first|exact trivial|(simp only[AllP];omega)|(simp(discharger:=omega)only[AllP,cA,cB];omega)|(simp only[AllP,cC,cD,cE,cF,cG];omega)) ?_|refine zn ?_|refine zb ?_|refine ze rfl ?_|refine zr ?_|refine zk ?_|refine zT rfl rfl rfl ?_|refine zU rfl rfl rfl ?_|refine zV rfl rfl rfl ?_|refine zf rfl ?_|refine zt rfl ?_)
  exact ⟨_, rfl, rfl, rfl⟩
theorem Close_ret (h : RelAt w p n bs M ad cap) :
    Ret Tryd.prog 31 [ptr p] w (fun v w' => v = I 0 ∧ RelTo w p n bs ad cap w' (closeM n M)) := by
  have hn := h.small
  have hwn : wid n ≤ 32 := by unfold wid; omega
  refine enter Tryd.call31 Tryd.func31 rfl rfl rfl rfl ?_
  (repeat first|refine zA ?_|refine zB ?_|refine zC ?_|refine zD ?_|refine zE ?_|refine zg ?_|refine zo rfl rfl (by first|exact trivial|(simp only[AllP];omega)|(simp(discharger:=omega)only[AllP,cA,cB];omega)|(simp only[AllP,cC,cD,cE,cF,cG];omega)) ?_|refine zn ?_|refine zb ?_|refine ze rfl ?_|refine zr ?_|refine zk ?_|refine zT rfl rfl rfl ?_|refine zU rfl rfl rfl ?_|refine zV rfl rfl rfl ?_|refine zf rfl ?_|refine zt rfl ?_)
  refine o_call (rthere_ret h) rfl rfl rfl ?_
  rintro v w1 ⟨rfl, rfl⟩
  (repeat first|refine zA ?_|refine zB ?_|refine zC ?_|refine zD ?_|refine zE ?_|refine zg ?_|refine zo rfl rfl (by first|exact trivial|(simp only[AllP];omega)|(simp(discharger:=omega)only[AllP,cA,cB];omega)|(simp only[AllP,cC,cD,cE,cF,cG];omega)) ?_|refine zn ?_|refine zb ?_|refine ze rfl ?_|refine zr ?_|refine zk ?_|refine zT rfl rfl rfl ?_|refine zU rfl rfl rfl ?_|refine zV rfl rfl rfl ?_|refine zf rfl ?_|refine zt rfl ?_)
  refine o_load rfl h.hdr rfl rfl rfl rfl rfl ?_
  (repeat first|refine zA ?_|refine zB ?_|refine zC ?_|refine zD ?_|refine zE ?_|refine zg ?_|refine zo rfl rfl (by first|exact trivial|(simp only[AllP];omega)|(simp(discharger:=omega)only[AllP,cA,cB];omega)|(simp only[AllP,cC,cD,cE,cF,cG];omega)) ?_|refine zn ?_|refine zb ?_|refine ze rfl ?_|refine zr ?_|refine zk ?_|refine zT rfl rfl rfl ?_|refine zU rfl rfl rfl ?_|refine zV rfl rfl rfl ?_|refine zf rfl ?_|refine zt rfl ?_)
  refine r_loop (α := Nat) [0, 13, 14] (fun k => [ptr p, I n, I k]) (fun k w2 => RelTo w1 p n bs ad cap w2 (closeTo n M k) ∧ k ≤ n) (fun k => n - k) 0 rfl ⟨RelTo.refl h, by omega⟩ ?_
  rintro k e w2 ⟨hto, hk⟩
  (repeat first|refine zA ?_|refine zB ?_|refine zC ?_|refine zD ?_|refine zE ?_|refine zg ?_|refine zo rfl rfl (by first|exact trivial|(simp only[AllP];omega)|(simp(discharger:=omega)only[AllP,cA,cB];omega)|(simp only[AllP,cC,cD,cE,cF,cG];omega)) ?_|refine zn ?_|refine zb ?_|refine ze rfl ?_|refine zr ?_|refine zk ?_|refine zT rfl rfl rfl ?_|refine zU rfl rfl rfl ?_|refine zV rfl rfl rfl ?_|refine zf rfl ?_|refine zt rfl ?_)
  refine r_if rfl (fun hc => ?_) (fun hc => ?_)
  rotate_left
  · have : k = n := by omega
    subst this
    (repeat first|refine zA ?_|refine zB ?_|refine zC ?_|refine zD ?_|refine zE ?_|refine zg ?_|refine zo rfl rfl (by first|exact trivial|(simp only[AllP];omega)|(simp(discharger:=omega)only[AllP,cA,cB];omega)|(simp only[AllP,cC,cD,cE,cF,cG];omega)) ?_|refine zn ?_|refine zb ?_|refine ze rfl ?_|refine zr ?_|refine zk ?_|refine zT rfl rfl rfl ?_|refine zU rfl rfl rfl ?_|refine zV rfl rfl rfl ?_|refine zf rfl ?_|refine zt rfl ?_)
    exact ⟨_, rfl, rfl, hto⟩
  have hkn : k < n := by omega
  (repeat first|refine zA ?_|refine zB ?_|refine zC ?_|refine zD ?_|refine zE ?_|refine zg ?_|refine zo rfl rfl (by first|exact trivial|(simp only[AllP];omega)|(simp(discharger:=omega)only[AllP,cA,cB];omega)|(simp only[AllP,cC,cD,cE,cF,cG];omega)) ?_|refine zn ?_|refine zb ?_|refine ze rfl ?_|refine zr ?_|refine zk ?_|refine zT rfl rfl rfl ?_|refine zU rfl rfl rfl ?_|refine zV rfl rfl rfl ?_|refine zf rfl ?_|refine zt rfl ?_)
  refine o_load rfl hto.at_.hdr rfl rfl rfl rfl rfl ?_
  (repeat first|refine zA ?_|refine zB ?_|refine zC ?_|refine zD ?_|refine zE ?_|refine zg ?_|refine zo rfl rfl (by first|exact trivial|(simp only[AllP];omega)|(simp(discharger:=omega)only[AllP,cA,cB];omega)|(simp only[AllP,cC,cD,cE,cF,cG];omega)) ?_|refine zn ?_|refine zb ?_|refine ze rfl ?_|refine zr ?_|refine zk ?_|refine zT rfl rfl rfl ?_|refine zU rfl rfl rfl ?_|refine zV rfl rfl rfl ?_|refine zf rfl ?_|refine zt rfl ?_)
  generalize hN : closeTo n M k = N at hto
  refine r_loop (α := Nat) [0, 3, 13, 14, 20, 21] (fun i => [ptr p, I k, I n, I k, I n, I i]) (fun i w3 => RelTo w1 p n bs ad cap w3 (stepK n N k i) ∧ i ≤ n) (fun i => n - i) 0 rfl ⟨hto, by omega⟩ ?_
  rintro i e w3 ⟨hto3, hi⟩
  (repeat first|refine zA ?_|refine zB ?_|refine zC ?_|refine zD ?_|refine zE ?_|refine zg ?_|refine zo rfl rfl (by first|exact trivial|(simp only[AllP];omega)|(simp(discharger:=omega)only[AllP,cA,cB];omega)|(simp only[AllP,cC,cD,cE,cF,cG];omega)) ?_|refine zn ?_|refine zb ?_|refine ze rfl ?_|refine zr ?_|refine zk ?_|refine zT rfl rfl rfl ?_|refine zU rfl rfl rfl ?_|refine zV rfl rfl rfl ?_|refine zf rfl ?_|refine zt rfl ?_)
  refine r_if rfl (fun hc2 => ?_) (fun hc2 => ?_)
  rotate_left
  · have : i = n := by omega
    subst this
    (repeat first|refine zA ?_|refine zB ?_|refine zC ?_|refine zD ?_|refine zE ?_|refine zg ?_|refine zo rfl rfl (by first|exact trivial|(simp only[AllP];omega)|(simp(discharger:=omega)only[AllP,cA,cB];omega)|(simp only[AllP,cC,cD,cE,cF,cG];omega)) ?_|refine zn ?_|refine zb ?_|refine ze rfl ?_|refine zr ?_|refine zk ?_|refine zT rfl rfl rfl ?_|refine zU rfl rfl rfl ?_|refine zV rfl rfl rfl ?_|refine zf rfl ?_|refine zt rfl ?_)
    refine ⟨k + 1, rfl, ⟨?_, by omega⟩, by omega⟩
    rw [closeTo_succ, hN]
    exact hto3
  have hin : i < n := by omega
  have hss := stepK_succ n N k i
  generalize stepK n N k i = S at hto3 hss
  have h3 := hto3.at_
  (repeat first|refine zA ?_|refine zB ?_|refine zC ?_|refine zD ?_|refine zE ?_|refine zg ?_|refine zo rfl rfl (by first|exact trivial|(simp only[AllP];omega)|(simp(discharger:=omega)only[AllP,cA,cB];omega)|(simp only[AllP,cC,cD,cE,cF,cG];omega)) ?_|refine zn ?_|refine zb ?_|refine ze rfl ?_|refine zr ?_|refine zk ?_|refine zT rfl rfl rfl ?_|refine zU rfl rfl rfl ?_|refine zV rfl rfl rfl ?_|refine zf rfl ?_|refine zt rfl ?_)
  refine o_call (Linked_ret h3 i k) rfl rfl rfl ?_
  rintro v w4 ⟨rfl, rfl⟩
  have hlb : linkedB n S (i : Int) (k : Int) = bitM S i k := by
    unfold linkedB nodeB
    simp
    omega
  rw [hlb]
  cases hbit : bitM S i k with
  | false =>
    rw [hbit, if_neg (by simp)] at hss
    (repeat first|refine zA ?_|refine zB ?_|refine zC ?_|refine zD ?_|refine zE ?_|refine zg ?_|refine zo rfl rfl (by first|exact trivial|(simp only[AllP];omega)|(simp(discharger:=omega)only[AllP,cA,cB];omega)|(simp only[AllP,cC,cD,cE,cF,cG];omega)) ?_|refine zn ?_|refine zb ?_|refine ze rfl ?_|refine zr ?_|refine zk ?_|refine zT rfl rfl rfl ?_|refine zU rfl rfl rfl ?_|refine zV rfl rfl rfl ?_|refine zf rfl ?_|refine zt rfl ?_)
    exact ⟨i + 1, rfl, ⟨by rw [hss]; exact hto3, by omega⟩, by omega⟩
  | true =>
    rw [hbit, if_pos rfl] at hss
    (repeat first|refine zA ?_|refine zB ?_|refine zC ?_|refine zD ?_|refine zE ?_|refine zg ?_|refine zo rfl rfl (by first|exact trivial|(simp only[AllP];omega)|(simp(discharger:=omega)only[AllP,cA,cB];omega)|(simp only[AllP,cC,cD,cE,cF,cG];omega)) ?_|refine zn ?_|refine zb ?_|refine ze rfl ?_|refine zr ?_|refine zk ?_|refine zT rfl rfl rfl ?_|refine zU rfl rfl rfl ?_|refine zV rfl rfl rfl ?_|refine zf rfl ?_|refine zt rfl ?_)
    refine o_load rfl h3.hdr rfl rfl rfl rfl rfl ?_
    obtain ⟨ba, bk, wk, hade, hbk, hMk, hBk, hlk, hok, hca, _⟩ := h3.cells hkn
    obtain ⟨ba', bi, wi, hade', hbi, hMi, hBi, hli, hoi, hca', _⟩ := h3.cells hin
    rw [hade] at hade'
    cases hade'
    have hSi : S.getD i [] = wi := by rw [List.getD_eq_getElem?_getD, hMi]; rfl
    have hSk : S.getD k [] = wk := by rw [List.getD_eq_getElem?_getD, hMk]; rfl
    rw [hSi, hSk] at hss
    subst hade
    (repeat first|refine zA ?_|refine zB ?_|refine zC ?_|refine zD ?_|refine zE ?_|refine zg ?_|refine zo rfl rfl (by first|exact trivial|(simp only[AllP];omega)|(simp(discharger:=omega)only[AllP,cA,cB];omega)|(simp only[AllP,cC,cD,cE,cF,cG];omega)) ?_|refine zn ?_|refine zb ?_|refine ze rfl ?_|refine zr ?_|refine zk ?_|refine zT rfl rfl rfl ?_|refine zU rfl rfl rfl ?_|refine zV rfl rfl rfl ?_|refine zf rfl ?_|refine zt rfl ?_)
    refine o_loadc (v := rowV (wid n) bk) rfl ?_ rfl rfl rfl rfl ?_
    · show w4.cell? ⟨ba, 0 + k, none⟩ = _
      rw [Nat.zero_add]; exact hca
    (repeat first|refine zA ?_|refine zB ?_|refine zC ?_|refine zD ?_|refine zE ?_|refine zg ?_|refine zo rfl rfl (by first|exact trivial|(simp only[AllP];omega)|(simp(discharger:=omega)only[AllP,cA,cB];omega)|(simp only[AllP,cC,cD,cE,cF,cG];omega)) ?_|refine zn ?_|refine zb ?_|refine ze rfl ?_|refine zr ?_|refine zk ?_|refine zT rfl rfl rfl ?_|refine zU rfl rfl rfl ?_|refine zV rfl rfl rfl ?_|refine zf rfl ?_|refine zt rfl ?_)
    refine r_loop (α := Nat) [0, 3, 4, 13, 14, 20, 21, 35, 36, 37] (fun a => [ptr p, I k, I i, I n, I k, I n, I i, rowV (wid n) bk, I (wid n), I a]) (fun a w5 => RelTo w1 p n bs (some ⟨ba, 0, none⟩) cap w5 (S.set i (updW (· ||| ·) wi wk a)) ∧ a ≤ wid n) (fun a => wid n - a) 0 rfl ⟨by rw [updW_zero, set_self hMi]; exact hto3, by omega⟩ ?_
    rintro a e w5 ⟨hto5, ha⟩
    (repeat first|refine zA ?_|refine zB ?_|refine zC ?_|refine zD ?_|refine zE ?_|refine zg ?_|refine zo rfl rfl (by first|exact trivial|(simp only[AllP];omega)|(simp(discharger:=omega)only[AllP,cA,cB];omega)|(simp only[AllP,cC,cD,cE,cF,cG];omega)) ?_|refine zn ?_|refine zb ?_|refine ze rfl ?_|refine zr ?_|refine zk ?_|refine zT rfl rfl rfl ?_|refine zU rfl rfl rfl ?_|refine zV rfl rfl rfl ?_|refine zf rfl ?_|refine zt rfl ?_)
    refine r_if rfl (fun hc3 => ?_) (fun hc3 => ?_)
    rotate_left
    · have : a = wid n := by omega
      subst this
      (repeat first|refine zA ?_|refine zB ?_|refine zC ?_|refine zD ?_|refine zE ?_|refine zg ?_|refine zo rfl rfl (by first|exact trivial|(simp only[AllP];omega)|(simp(discharger:=omega)only[AllP,cA,cB];omega)|(simp only[AllP,cC,cD,cE,cF,cG];omega)) ?_|refine zn ?_|refine zb ?_|refine ze rfl ?_|refine zr ?_|refine zk ?_|refine zT rfl rfl rfl ?_|refine zU rfl rfl rfl ?_|refine zV rfl rfl rfl ?_|refine zf rfl ?_|refine zt rfl ?_)
      refine ⟨i + 1, rfl, ⟨?_, by omega⟩, by omega⟩
      rw [hss]
      unfold orRow
      rw [hlk]
      exact hto5
    have hlt : a < wid n := by omega
    have h5 := hto5.at_
    have hiS : i < S.length := (List.getElem?_eq_some_iff.1 hMi).1
    have hMi5 : (S.set i (updW (· ||| ·) wi wk a))[i]? = some (updW (· ||| ·) wi wk a) := List.getElem?_set_self hiS
    obtain ⟨hBi5, hli5, hoi5⟩ := h5.row i bi _ hbi hMi5
    have hx1 := hoi.getD a
    have hx2 := hok.getD a
    have ca5 : ∀ j b, bs[j]? = some b → w5.cell? ⟨ba, j, none⟩ = some (rowV (wid n) b) := fun j b hb => h5.own.get (by rw [List.getElem?_map, hb]; rfl)
    -- the word of row k is as it was
    have hwk : w5.cell? ⟨bk, a, none⟩ = some (U (wk.getD a 0)) := by
      by_cases hik : i = k
      · subst hik
        rw [hbi] at hbk; cases hbk
        rw [hMi] at hMk; cases hMk
        refine hBi5.cell ?_
        rw [updW_or_self, List.getElem?_map, List.getD_eq_getElem?_getD, List.getElem?_eq_getElem (by omega)]; rfl
      · have hMk5 : (S.set i (updW (· ||| ·) wi wk a))[k]? = some wk := by rw [List.getElem?_set_ne hik]; exact hMk
        refine (h5.row k bk _ hbk hMk5).1.cell ?_
        rw [List.getElem?_map, List.getD_eq_getElem?_getD, List.getElem?_eq_getElem (by omega)]; rfl
    have hwi : w5.cell? ⟨bi, a, none⟩ = some (U (wi.getD a 0)) := by
      refine hBi5.cell ?_
      have hg := updW_getD (· ||| ·) wi wk a a (by omega)
      rw [if_neg (by omega)] at hg
      rw [List.getElem?_map, ← hg, List.getD_eq_getElem?_getD, List.getElem?_eq_getElem (by omega)]; rfl
    (repeat first|refine zA ?_|refine zB ?_|refine zC ?_|refine zD ?_|refine zE ?_|refine zg ?_|refine zo rfl rfl (by first|exact trivial|(simp only[AllP];omega)|(simp(discharger:=omega)only[AllP,cA,cB];omega)|(simp only[AllP,cC,cD,cE,cF,cG];omega)) ?_|refine zn ?_|refine zb ?_|refine ze rfl ?_|refine zr ?_|refine zk ?_|refine zT rfl rfl rfl ?_|refine zU rfl rfl rfl ?_|refine zV rfl rfl rfl ?_|refine zf rfl ?_|refine zt rfl ?_)
    refine o_loadc (v := U (wk.getD a 0)) rfl ?_ rfl rfl rfl rfl ?_
    · show w5.cell? ⟨bk, 0 + a, none⟩ = _
      rw [Nat.zero_add]; exact hwk
    (repeat first|refine zA ?_|refine zB ?_|refine zC ?_|refine zD ?_|refine zE ?_|refine zg ?_|refine zo rfl rfl (by first|exact trivial|(simp only[AllP];omega)|(simp(discharger:=omega)only[AllP,cA,cB];omega)|(simp only[AllP,cC,cD,cE,cF,cG];omega)) ?_|refine zn ?_|refine zb ?_|refine ze rfl ?_|refine zr ?_|refine zk ?_|refine zT rfl rfl rfl ?_|refine zU rfl rfl rfl ?_|refine zV rfl rfl rfl ?_|refine zf rfl ?_|refine zt rfl ?_)
    refine o_load rfl h5.hdr rfl rfl rfl rfl rfl ?_
    (repeat first|refine zA ?_|refine zB ?_|refine zC ?_|refine zD ?_|refine zE ?_|refine zg ?_|refine zo rfl rfl (by first|exact trivial|(simp only[AllP];omega)|(simp(discharger:=omega)only[AllP,cA,cB];omega)|(simp only[AllP,cC,cD,cE,cF,cG];omega)) ?_|refine zn ?_|refine zb ?_|refine ze rfl ?_|refine zr ?_|refine zk ?_|refine zT rfl rfl rfl ?_|refine zU rfl rfl rfl ?_|refine zV rfl rfl rfl ?_|refine zf rfl ?_|refine zt rfl ?_)
    refine o_loadc (v := rowV (wid n) bi) rfl ?_ rfl rfl rfl rfl ?_
    · show w5.cell? ⟨ba, 0 + i, none⟩ = _
      rw [Nat.zero_add]; exact ca5 i bi hbi
    (repeat first|refine zA ?_|refine zB ?_|refine zC ?_|refine zD ?_|refine zE ?_|refine zg ?_|refine zo rfl rfl (by first|exact trivial|(simp only[AllP];omega)|(simp(discharger:=omega)only[AllP,cA,cB];omega)|(simp only[AllP,cC,cD,cE,cF,cG];omega)) ?_|refine zn ?_|refine zb ?_|refine ze rfl ?_|refine zr ?_|refine zk ?_|refine zT rfl rfl rfl ?_|refine zU rfl rfl rfl ?_|refine zV rfl rfl rfl ?_|refine zf rfl ?_|refine zt rfl ?_)
    refine o_loadc (v := U (wi.getD a 0)) rfl ?_ rfl rfl rfl rfl ?_
    · show w5.cell? ⟨bi, 0 + a, none⟩ = _
      rw [Nat.zero_add]; exact hwi
    (repeat first|refine zA ?_|refine zB ?_|refine zC ?_|refine zD ?_|refine zE ?_|refine zg ?_|refine zo rfl rfl (by first|exact trivial|(simp only[AllP];omega)|(simp(discharger:=omega)only[AllP,cA,cB];omega)|(simp only[AllP,cC,cD,cE,cF,cG];omega)) ?_|refine zn ?_|refine zb ?_|refine ze rfl ?_|refine zr ?_|refine zk ?_|refine zT rfl rfl rfl ?_|refine zU rfl rfl rfl ?_|refine zV rfl rfl rfl ?_|refine zf rfl ?_|refine zt rfl ?_)
    have e1 := ibits_or hx1 hx2
    refine o_store (b := bi) (off := a) (v := U (wi.getD a 0 ||| wk.getD a 0)) (c := none) ?_ hBi5 (by simp; omega) ?_ rfl rfl rfl rfl rfl ?_
    · show Value.pointer (some ⟨bi, 0 + a, none⟩) = _
      rw [Nat.zero_add]
    · exact congrArg (fun z => some (none, Value.int .u64 z)) e1
    intro w6 hu6
    have hst := h5.stored (Sm.refl _) hbi hMi5 (Nat.or_lt_two_pow hx1 hx2) hu6
    rw [updW_set _ _ _ _ (by omega), List.set_set] at hst
    (repeat first|refine zA ?_|refine zB ?_|refine zC ?_|refine zD ?_|refine zE ?_|refine zg ?_|refine zo rfl rfl (by first|exact trivial|(simp only[AllP];omega)|(simp(discharger:=omega)only[AllP,cA,cB];omega)|(simp only[AllP,cC,cD,cE,cF,cG];omega)) ?_|refine zn ?_|refine zb ?_|refine ze rfl ?_|refine zr ?_|refine zk ?_|refine zT rfl rfl rfl ?_|refine zU rfl rfl rfl ?_|refine zV rfl rfl rfl ?_|refine zf rfl ?_|refine zt rfl ?_)
    exact ⟨a + 1, rfl, ⟨hto5.trans hst, by omega⟩, by omega⟩
end
end Go.Vc
