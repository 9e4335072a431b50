/- bits: relations: the pairs' iterator, the law's pairs, Turned, Close. -/
import Derived.Test.YtdfkhnhmcanncaaDoorBt20
namespace Go.Vc
open Go Go.Proofs
set_option maxRecDepth 10000
variable {w : World}

def rowPairs (M : List (List Nat)) (i : Nat) : List (Nat × Nat) := (elems (M.getD i [])).map fun j => (i, j)
def pairsL (n : Nat) (M : List (List Nat)) : List (Nat × Nat) := (List.range n).flatMap (rowPairs M)
theorem pairsL_succ (n : Nat) (M : List (List Nat)) : pairsL (n + 1) M = pairsL n M ++ rowPairs M n := by
  unfold pairsL; rw [List.range_succ, List.flatMap_append]; simp
theorem pairsL_split {n i : Nat} (M : List (List Nat)) (h : i < n) : ∃ tail, pairsL n M = pairsL i M ++ rowPairs M i ++ tail := by
  obtain ⟨d, rfl⟩ : ∃ d, n = i + 1 + d := ⟨n - (i + 1), by omega⟩
  induction d with
  | zero => exact ⟨[], by rw [Nat.add_zero, pairsL_succ, List.append_nil]⟩
  | succ d ih =>
    obtain ⟨t, ht⟩ := ih (by omega)
    exact ⟨t ++ rowPairs M (i + 1 + d), by rw [← Nat.add_assoc, pairsL_succ, ht, List.append_assoc]⟩
abbrev encP (x : Nat × Nat) : List Value := [I (x.1 : Int), I (x.2 : Int)]
theorem pairs_iter (hT : TabW w) {bx bc n : Nat} {As : List (Option Addr × Nat)} {M : List (List Nat)} {T : TypeId} (hbx : Blk w bx [.slice (some ⟨bc, 0, none⟩) n n] T) (h : RowsAt w bc n As M) (hn : n ≤ 2048) :
    Iter Tryd.prog 71 [ptr bx] (0 :: bx :: rowsBlks bc As) encP (pairsL n M) w := by
  have hwn : wid n ≤ 32 := by unfold wid; omega
  refine ⟨?_, ?_⟩
  · intro b hb
    simp only [List.mem_cons] at hb
    rcases hb with rfl | rfl | hb
    · exact hT.lt
    · exact hbx.lt
    · exact h.lt b hb
  intro l w1 J Jx hsz hpriv hstab hJ0 hY hstabx
  have facts : ∀ pre W, J pre W → TabW W ∧ Blk W bx [.slice (some ⟨bc, 0, none⟩) n n] T ∧ RowsAt W bc n As M := fun pre W hJ => by
    have hp := hpriv pre W hJ
    refine ⟨hT.heap (hp _ (by simp)), by unfold Blk; rw [hp bx (by simp)]; exact hbx, h.keep (fun b hb => hp b (by simp [hb]))⟩
  obtain ⟨hT1, hb1, hr1⟩ := facts _ _ hJ0
  refine enter Tryd.call71 Tryd.func71 rfl rfl rfl rfl ?_
  (repeat first|refine zA ?_|refine zB ?_|refine zC ?_|refine zD ?_|refine zE ?_|refine zg ?_|refine zo rfl rfl (by first|exact trivial|(simp only[AllP];omega)|(simp(discharger:=omega)only[AllP,cA,cB];omega)|(simp only[AllP,cC,cD,cE,cF,cG];omega)) ?_|refine zn ?_|refine zb ?_|refine ze rfl ?_|refine zr ?_|refine zk ?_|refine zT rfl rfl rfl ?_|refine zU rfl rfl rfl ?_|refine zV rfl rfl rfl ?_|refine zf rfl ?_|refine zt rfl ?_)
  refine o_load rfl hb1 rfl rfl rfl rfl rfl ?_
  (repeat first|refine zA ?_|refine zB ?_|refine zC ?_|refine zD ?_|refine zE ?_|refine zg ?_|refine zo rfl rfl (by first|exact trivial|(simp only[AllP];omega)|(simp(discharger:=omega)only[AllP,cA,cB];omega)|(simp only[AllP,cC,cD,cE,cF,cG];omega)) ?_|refine zn ?_|refine zb ?_|refine ze rfl ?_|refine zr ?_|refine zk ?_|refine zT rfl rfl rfl ?_|refine zU rfl rfl rfl ?_|refine zV rfl rfl rfl ?_|refine zf rfl ?_|refine zt rfl ?_)
  refine r_loop (α := Nat) [0, 1, 6, 7, 8] (fun i => [yv l, ptr bx, .slice (some ⟨bc, 0, none⟩) n n, I n, I i]) (fun i W => J (pairsL i M) W ∧ i ≤ n) (fun i => n - i) 0 rfl ⟨hJ0, by omega⟩ ?_
  rintro i e W ⟨hJ, hi⟩
  (repeat first|refine zA ?_|refine zB ?_|refine zC ?_|refine zD ?_|refine zE ?_|refine zg ?_|refine zo rfl rfl (by first|exact trivial|(simp only[AllP];omega)|(simp(discharger:=omega)only[AllP,cA,cB];omega)|(simp only[AllP,cC,cD,cE,cF,cG];omega)) ?_|refine zn ?_|refine zb ?_|refine ze rfl ?_|refine zr ?_|refine zk ?_|refine zT rfl rfl rfl ?_|refine zU rfl rfl rfl ?_|refine zV rfl rfl rfl ?_|refine zf rfl ?_|refine zt rfl ?_)
  refine r_if rfl (fun hc => ?_) (fun hc => ?_)
  rotate_left
  · have : i = n := by omega
    subst this
    (repeat first|refine zA ?_|refine zB ?_|refine zC ?_|refine zD ?_|refine zE ?_|refine zg ?_|refine zo rfl rfl (by first|exact trivial|(simp only[AllP];omega)|(simp(discharger:=omega)only[AllP,cA,cB];omega)|(simp only[AllP,cC,cD,cE,cF,cG];omega)) ?_|refine zn ?_|refine zb ?_|refine ze rfl ?_|refine zr ?_|refine zk ?_|refine zT rfl rfl rfl ?_|refine zU rfl rfl rfl ?_|refine zV rfl rfl rfl ?_|refine zf rfl ?_|refine zt rfl ?_)
    exact ⟨_, rfl, .inl hJ⟩
  have hlt : i < n := by omega
  obtain ⟨hT2, hb2, hr2⟩ := facts _ _ hJ
  have hA : As[i]? = some (As[i]'(by rw [hr2.nA]; exact hlt)) := List.getElem?_eq_getElem _
  have hM : M[i]? = some (M[i]'(by rw [hr2.nM]; exact hlt)) := List.getElem?_eq_getElem _
  generalize As[i]'(by rw [hr2.nA]; exact hlt) = x at hA
  generalize M[i]'(by rw [hr2.nM]; exact hlt) = ws at hM
  obtain ⟨a, c⟩ := x
  have hMd : M.getD i [] = ws := by rw [List.getD_eq_getElem?_getD, hM]; rfl
  have rd : ∀ pre W, J pre W → RdW W a ws := fun pre W hJ => by
    obtain ⟨_, _, hr⟩ := facts _ _ hJ
    obtain ⟨g1, g2, g3⟩ := hr.row i _ _ hA hM
    exact ⟨g1.read, g2, by omega⟩
  have hlw : ws.length = wid n := (hr2.row i _ _ hA hM).2.2
  (repeat first|refine zA ?_|refine zB ?_|refine zC ?_|refine zD ?_|refine zE ?_|refine zg ?_|refine zo rfl rfl (by first|exact trivial|(simp only[AllP];omega)|(simp(discharger:=omega)only[AllP,cA,cB];omega)|(simp only[AllP,cC,cD,cE,cF,cG];omega)) ?_|refine zn ?_|refine zb ?_|refine ze rfl ?_|refine zr ?_|refine zk ?_|refine zT rfl rfl rfl ?_|refine zU rfl rfl rfl ?_|refine zV rfl rfl rfl ?_|refine zf rfl ?_|refine zt rfl ?_)
  refine o_load (v := .slice a (wid n) c) rfl hr2.blk ?_ rfl rfl rfl rfl ?_
  · show (_ : List Value)[0 + i]? = _
    rw [Nat.zero_add, List.getElem?_map, hA]; rfl
  (repeat first|refine zA ?_|refine zB ?_|refine zC ?_|refine zD ?_|refine zE ?_|refine zg ?_|refine zo rfl rfl (by first|exact trivial|(simp only[AllP];omega)|(simp(discharger:=omega)only[AllP,cA,cB];omega)|(simp only[AllP,cC,cD,cE,cF,cG];omega)) ?_|refine zn ?_|refine zb ?_|refine ze rfl ?_|refine zr ?_|refine zk ?_|refine zT rfl rfl rfl ?_|refine zU rfl rfl rfl ?_|refine zV rfl rfl rfl ?_|refine zf rfl ?_|refine zt rfl ?_)
  have hnx : ∀ (m : Int) (pre : List (Nat × Nat)) (W : World), J pre W → -9223372036854775808 ≤ m ∧ m ≤ 9223372036854775807 → Ret Tryd.prog 62 [.slice a (wid n) c, I m] W (fun v w' => v = I (nxI ws m) ∧ w' = W) := fun m pre W hJ hm => by
    have := next_ret (facts _ _ hJ).1 (cap := c) (rd _ _ hJ) hm
    rwa [hlw] at this
  refine o_call (hnx 0 _ _ hJ (by omega)) rfl rfl rfl ?_
  rintro v W2 ⟨rfl, rfl⟩
  (repeat first|refine zA ?_|refine zB ?_|refine zC ?_|refine zD ?_|refine zE ?_|refine zg ?_|refine zo rfl rfl (by first|exact trivial|(simp only[AllP];omega)|(simp(discharger:=omega)only[AllP,cA,cB];omega)|(simp only[AllP,cC,cD,cE,cF,cG];omega)) ?_|refine zn ?_|refine zb ?_|refine ze rfl ?_|refine zr ?_|refine zk ?_|refine zT rfl rfl rfl ?_|refine zU rfl rfl rfl ?_|refine zV rfl rfl rfl ?_|refine zf rfl ?_|refine zt rfl ?_)
  refine r_loop (α := List Nat × List Nat) [0, 1, 3, 4, 5, 6, 7, 8] (fun g => [yv l, ptr bx, I i, .slice a (wid n) c, I (hdI g.2), .slice (some ⟨bc, 0, none⟩) n n, I n, I i]) (fun g W => elems ws = g.1 ++ g.2 ∧ J (pairsL i M ++ g.1.map fun j => (i, j)) W) (fun g => g.2.length) ([], elems ws) ?_ ⟨rfl, by simpa using hJ⟩ ?_
  · show [yv l, ptr bx, I i, .slice a (wid n) c, I (nxI ws 0), .slice (some ⟨bc, 0, none⟩) n n, I n, I i] = _
    rw [nxI_elems (pre := []) (post := elems ws) rfl 0 (by simp) (by omega) (fun j _ h => by omega)]
  rintro ⟨pre, post⟩ e W3 ⟨hx, hJ3⟩
  dsimp only at hx hJ3 ⊢
  cases post with
  | nil =>
    (repeat first|refine zA ?_|refine zB ?_|refine zC ?_|refine zD ?_|refine zE ?_|refine zg ?_|refine zo rfl rfl (by first|exact trivial|(simp only[AllP];omega)|(simp(discharger:=omega)only[AllP,cA,cB];omega)|(simp only[AllP,cC,cD,cE,cF,cG];omega)) ?_|refine zn ?_|refine zb ?_|refine ze rfl ?_|refine zr ?_|refine zk ?_|refine zT rfl rfl rfl ?_|refine zU rfl rfl rfl ?_|refine zV rfl rfl rfl ?_|refine zf rfl ?_|refine zt rfl ?_)
    refine ⟨i + 1, rfl, ⟨?_, by omega⟩, by omega⟩
    rw [pairsL_succ]
    unfold rowPairs
    rw [hMd, hx, List.append_nil]
    exact hJ3
  | cons k rest =>
    have hk : hdI (k :: rest) = (k : Int) := rfl
    rw [hk]
    obtain ⟨hbk, hltk, hall⟩ := elems_split hx
    have hkl := bit_lt hbk
    obtain ⟨tail, htail⟩ := pairsL_split M hlt
    have hxs : pairsL n M = (pairsL i M ++ pre.map fun j => (i, j)) ++ (i, k) :: (rest.map (fun j => (i, j)) ++ tail) := by
      rw [htail]
      unfold rowPairs
      rw [hMd, hx]
      simp
    (repeat first|refine zA ?_|refine zB ?_|refine zC ?_|refine zD ?_|refine zE ?_|refine zg ?_|refine zo rfl rfl (by first|exact trivial|(simp only[AllP];omega)|(simp(discharger:=omega)only[AllP,cA,cB];omega)|(simp only[AllP,cC,cD,cE,cF,cG];omega)) ?_|refine zn ?_|refine zb ?_|refine ze rfl ?_|refine zr ?_|refine zk ?_|refine zT rfl rfl rfl ?_|refine zU rfl rfl rfl ?_|refine zV rfl rfl rfl ?_|refine zf rfl ?_|refine zt rfl ?_)
    refine o_yield (hY _ (i, k) _ W3 hxs hJ3) rfl rfl rfl rfl ?_
    rintro b W4 (⟨rfl, hJ4⟩ | ⟨rfl, hJx⟩)
    · have hJ4' : J (pairsL i M ++ (pre ++ [k]).map fun j => (i, j)) W4 := by
        rw [List.map_append, ← List.append_assoc]; exact hJ4
      (repeat first|refine zA ?_|refine zB ?_|refine zC ?_|refine zD ?_|refine zE ?_|refine zg ?_|refine zo rfl rfl (by first|exact trivial|(simp only[AllP];omega)|(simp(discharger:=omega)only[AllP,cA,cB];omega)|(simp only[AllP,cC,cD,cE,cF,cG];omega)) ?_|refine zn ?_|refine zb ?_|refine ze rfl ?_|refine zr ?_|refine zk ?_|refine zT rfl rfl rfl ?_|refine zU rfl rfl rfl ?_|refine zV rfl rfl rfl ?_|refine zf rfl ?_|refine zt rfl ?_)
      refine o_call (hnx ((k : Int) + 1) _ _ hJ4 (by omega)) rfl rfl rfl ?_
      rintro v W5 ⟨rfl, rfl⟩
      (repeat first|refine zA ?_|refine zB ?_|refine zC ?_|refine zD ?_|refine zE ?_|refine zg ?_|refine zo rfl rfl (by first|exact trivial|(simp only[AllP];omega)|(simp(discharger:=omega)only[AllP,cA,cB];omega)|(simp only[AllP,cC,cD,cE,cF,cG];omega)) ?_|refine zn ?_|refine zb ?_|refine ze rfl ?_|refine zr ?_|refine zk ?_|refine zT rfl rfl rfl ?_|refine zU rfl rfl rfl ?_|refine zV rfl rfl rfl ?_|refine zf rfl ?_|refine zt rfl ?_)
      refine ⟨(pre ++ [k], rest), ?_, ⟨by rw [hx]; simp, hJ4'⟩, by simp⟩
      show [yv l, ptr bx, I i, .slice a (wid n) c, I (nxI ws ((k : Int) + 1)), .slice (some ⟨bc, 0, none⟩) n n, I n, I i] = _
      rw [nxI_elems (pre := pre ++ [k]) (post := rest) (by rw [hx]; simp) _ ?_ (by omega) ?_]
      · intro j hj
        rcases List.mem_append.1 hj with h1 | h1
        · have := hltk j h1; omega
        · simp at h1; omega
      · intro j hb hj
        by_cases h1 : j < k
        · exact List.mem_append_left _ (hall j hb h1)
        · have : j = k := by omega
          subst this; simp
    · (repeat first|refine zA ?_|refine zB ?_|refine zC ?_|refine zD ?_|refine zE ?_|refine zg ?_|refine zo rfl rfl (by first|exact trivial|(simp only[AllP];omega)|(simp(discharger:=omega)only[AllP,cA,cB];omega)|(simp only[AllP,cC,cD,cE,cF,cG];omega)) ?_|refine zn ?_|refine zb ?_|refine ze rfl ?_|refine zr ?_|refine zk ?_|refine zT rfl rfl rfl ?_|refine zU rfl rfl rfl ?_|refine zV rfl rfl rfl ?_|refine zf rfl ?_|refine zt rfl ?_)
      exact ⟨_, rfl, .inr ⟨_, _, by rw [hxs, List.append_cons], hJx⟩⟩
theorem pairs_iter0 {bx : Nat} {T : TypeId} (hbx : Blk w bx [.slice none 0 0] T) : Iter Tryd.prog 71 [ptr bx] [bx] encP [] w := by
  refine ⟨?_, ?_⟩
  · intro b hb
    simp at hb; subst hb; exact hbx.lt
  intro l w1 J Jx hsz hpriv hstab hJ0 hY hstabx
  have hb1 : Blk w1 bx [.slice none 0 0] T := by unfold Blk; rw [hpriv _ _ hJ0 bx (by simp)]; exact hbx
  refine enter Tryd.call71 Tryd.func71 rfl rfl rfl rfl ?_
  (repeat first|refine zA ?_|refine zB ?_|refine zC ?_|refine zD ?_|refine zE ?_|refine zg ?_|refine zo rfl rfl (by first|exact trivial|(simp only[AllP];omega)|(simp(discharger:=omega)only[AllP,cA,cB];omega)|(simp only[AllP,cC,cD,cE,cF,cG];omega)) ?_|refine zn ?_|refine zb ?_|refine ze rfl ?_|refine zr ?_|refine zk ?_|refine zT rfl rfl rfl ?_|refine zU rfl rfl rfl ?_|refine zV rfl rfl rfl ?_|refine zf rfl ?_|refine zt rfl ?_)
  refine o_load rfl hb1 rfl rfl rfl rfl rfl ?_
  (repeat first|refine zA ?_|refine zB ?_|refine zC ?_|refine zD ?_|refine zE ?_|refine zg ?_|refine zo rfl rfl (by first|exact trivial|(simp only[AllP];omega)|(simp(discharger:=omega)only[AllP,cA,cB];omega)|(simp only[AllP,cC,cD,cE,cF,cG];omega)) ?_|refine zn ?_|refine zb ?_|refine ze rfl ?_|refine zr ?_|refine zk ?_|refine zT rfl rfl rfl ?_|refine zU rfl rfl rfl ?_|refine zV rfl rfl rfl ?_|refine zf rfl ?_|refine zt rfl ?_)
  refine r_loop (α := Unit) [7, 8] (fun i => [I 0, I 0]) (fun i W => J [] W) (fun i => 0) () rfl hJ0 ?_
  rintro i e W hJ
  (repeat first|refine zA ?_|refine zB ?_|refine zC ?_|refine zD ?_|refine zE ?_|refine zg ?_|refine zo rfl rfl (by first|exact trivial|(simp only[AllP];omega)|(simp(discharger:=omega)only[AllP,cA,cB];omega)|(simp only[AllP,cC,cD,cE,cF,cG];omega)) ?_|refine zn ?_|refine zb ?_|refine ze rfl ?_|refine zr ?_|refine zk ?_|refine zT rfl rfl rfl ?_|refine zU rfl rfl rfl ?_|refine zV rfl rfl rfl ?_|refine zf rfl ?_|refine zt rfl ?_)
  exact ⟨_, rfl, .inl hJ⟩

/-- a sequence of pairs: a function value that tells them -/
structure SeqP (w : World) (v : Value) (Fp : List Nat) (xs : List (Nat × Nat)) : Prop where
  is : ∃ f lb, v = .func (.func f) #[] ⟨lb⟩ ∧ Iter Tryd.prog f lb Fp encP xs w
theorem SeqP.kp {w w' : World} {v : Value} {Fp : List Nat} {xs : List (Nat × Nat)} (h : SeqP w v Fp xs) {S : List Nat} (hk : Kp S w w') (hd : ∀ b, b ∈ Fp → b ∉ S) : SeqP w' v Fp xs := by
  obtain ⟨f, lb, h1, h2⟩ := h.is
  exact ⟨f, lb, h1, h2.kp hk.size (fun b hb => hk.at_ b (h2.1 b hb) (hd b hb))⟩
theorem SeqP.lt {v : Value} {Fp : List Nat} {xs : List (Nat × Nat)} (h : SeqP w v Fp xs) : ∀ b, b ∈ Fp → b < w.heap.size := by
  obtain ⟨f, lb, h1, h2⟩ := h.is
  exact h2.1
theorem Pairs_ret (hT : TabW w) {p n : Nat} {bs : List Nat} {M : List (List Nat)} {ad : Option Addr} {cap : Nat} (h : RelAt w p n bs M ad cap) :
    Ret Tryd.prog 34 [ptr p] w (fun v w' => ∃ Fp, SeqP w' v (0 :: Fp) (pairsL n M) ∧ Kp [] w w' ∧ ∀ b, b ∈ Fp → w.heap.size ≤ b) := by
  refine enter Tryd.call34 Tryd.func34 rfl rfl rfl rfl ?_
  (repeat first|refine zA ?_|refine zB ?_|refine zC ?_|refine zD ?_|refine zE ?_|refine zg ?_|refine zo rfl rfl (by first|exact trivial|(simp only[AllP];omega)|(simp(discharger:=omega)only[AllP,cA,cB];omega)|(simp only[AllP,cC,cD,cE,cF,cG];omega)) ?_|refine zn ?_|refine zb ?_|refine ze rfl ?_|refine zr ?_|refine zk ?_|refine zT rfl rfl rfl ?_|refine zU rfl rfl rfl ?_|refine zV rfl rfl rfl ?_|refine zf rfl ?_|refine zt rfl ?_)
  refine o_call (copied_ret h) rfl rfl rfl ?_
  rintro v w1 ⟨bc, As, rfl, hr, k1, hnew⟩
  (repeat first|refine zA ?_|refine zB ?_|refine zC ?_|refine zD ?_|refine zE ?_|refine zg ?_|refine zo rfl rfl (by first|exact trivial|(simp only[AllP];omega)|(simp(discharger:=omega)only[AllP,cA,cB];omega)|(simp only[AllP,cC,cD,cE,cF,cG];omega)) ?_|refine zn ?_|refine zb ?_|refine ze rfl ?_|refine zr ?_|refine zk ?_|refine zT rfl rfl rfl ?_|refine zU rfl rfl rfl ?_|refine zV rfl rfl rfl ?_|refine zf rfl ?_|refine zt rfl ?_)
  refine o_alloc rfl rfl rfl rfl ?_
  intro bx w2 hbx hu2
  (repeat first|refine zA ?_|refine zB ?_|refine zC ?_|refine zD ?_|refine zE ?_|refine zg ?_|refine zo rfl rfl (by first|exact trivial|(simp only[AllP];omega)|(simp(discharger:=omega)only[AllP,cA,cB];omega)|(simp only[AllP,cC,cD,cE,cF,cG];omega)) ?_|refine zn ?_|refine zb ?_|refine ze rfl ?_|refine zr ?_|refine zk ?_|refine zT rfl rfl rfl ?_|refine zU rfl rfl rfl ?_|refine zV rfl rfl rfl ?_|refine zf rfl ?_|refine zt rfl ?_)
  refine o_store rfl hu2.blk (by decide) rfl rfl rfl rfl rfl rfl ?_
  intro w3 hu3
  have hs1 := k1.size
  have k2 : Kp [] w1 w2 := hu2.kp [] (.inr (by omega))
  have k3 : Kp [] w1 w3 := k2.since (hu3.kp [bx] (.inl (by simp))) (by simp; omega)
  have hT3 := (hT.kp k1 (by simp)).kp k3 (by simp)
  have hr3 := hr.keep (w' := w3) (fun b hb => k3.at_ b (hr.lt b hb) (by simp))
  (repeat first|refine zA ?_|refine zB ?_|refine zC ?_|refine zD ?_|refine zE ?_|refine zg ?_|refine zo rfl rfl (by first|exact trivial|(simp only[AllP];omega)|(simp(discharger:=omega)only[AllP,cA,cB];omega)|(simp only[AllP,cC,cD,cE,cF,cG];omega)) ?_|refine zn ?_|refine zb ?_|refine ze rfl ?_|refine zr ?_|refine zk ?_|refine zT rfl rfl rfl ?_|refine zU rfl rfl rfl ?_|refine zV rfl rfl rfl ?_|refine zf rfl ?_|refine zt rfl ?_)
  refine ⟨_, rfl, bx :: rowsBlks bc As, ⟨_, _, rfl, pairs_iter hT3 hu3.blk hr3 h.small⟩, k1.trans k3, ?_⟩
  intro b hb
  rcases List.mem_cons.1 hb with rfl | hb
  · omega
  · exact hnew b hb
theorem copied_nil : Ret Tryd.prog 70 [.pointer none] w (fun v w' => v = .slice none 0 0 ∧ w' = w) := by
  refine enter Tryd.call70 Tryd.func70 rfl rfl rfl rfl ?_
  (repeat first|refine zA ?_|refine zB ?_|refine zC ?_|refine zD ?_|refine zE ?_|refine zg ?_|refine zo rfl rfl (by first|exact trivial|(simp only[AllP];omega)|(simp(discharger:=omega)only[AllP,cA,cB];omega)|(simp only[AllP,cC,cD,cE,cF,cG];omega)) ?_|refine zn ?_|refine zb ?_|refine ze rfl ?_|refine zr ?_|refine zk ?_|refine zT rfl rfl rfl ?_|refine zU rfl rfl rfl ?_|refine zV rfl rfl rfl ?_|refine zf rfl ?_|refine zt rfl ?_)
  refine o_call rthere_nil rfl rfl rfl ?_
  rintro v w1 ⟨rfl, rfl⟩
  (repeat first|refine zA ?_|refine zB ?_|refine zC ?_|refine zD ?_|refine zE ?_|refine zg ?_|refine zo rfl rfl (by first|exact trivial|(simp only[AllP];omega)|(simp(discharger:=omega)only[AllP,cA,cB];omega)|(simp only[AllP,cC,cD,cE,cF,cG];omega)) ?_|refine zn ?_|refine zb ?_|refine ze rfl ?_|refine zr ?_|refine zk ?_|refine zT rfl rfl rfl ?_|refine zU rfl rfl rfl ?_|refine zV rfl rfl rfl ?_|refine zf rfl ?_|refine zt rfl ?_)
  exact ⟨_, rfl, rfl, rfl⟩
theorem Pairs_nil : Ret Tryd.prog 34 [.pointer none] w (fun v w' => ∃ Fp, SeqP w' v Fp [] ∧ Kp [] w w' ∧ ∀ b, b ∈ Fp → w.heap.size ≤ b) := by
  refine enter Tryd.call34 Tryd.func34 rfl rfl rfl rfl ?_
  (repeat first|refine zA ?_|refine zB ?_|refine zC ?_|refine zD ?_|refine zE ?_|refine zg ?_|refine zo rfl rfl (by first|exact trivial|(simp only[AllP];omega)|(simp(discharger:=omega)only[AllP,cA,cB];omega)|(simp only[AllP,cC,cD,cE,cF,cG];omega)) ?_|refine zn ?_|refine zb ?_|refine ze rfl ?_|refine zr ?_|refine zk ?_|refine zT rfl rfl rfl ?_|refine zU rfl rfl rfl ?_|refine zV rfl rfl rfl ?_|refine zf rfl ?_|refine zt rfl ?_)
  refine o_call copied_nil rfl rfl rfl ?_
  rintro v w1 ⟨rfl, rfl⟩
  (repeat first|refine zA ?_|refine zB ?_|refine zC ?_|refine zD ?_|refine zE ?_|refine zg ?_|refine zo rfl rfl (by first|exact trivial|(simp only[AllP];omega)|(simp(discharger:=omega)only[AllP,cA,cB];omega)|(simp only[AllP,cC,cD,cE,cF,cG];omega)) ?_|refine zn ?_|refine zb ?_|refine ze rfl ?_|refine zr ?_|refine zk ?_|refine zT rfl rfl rfl ?_|refine zU rfl rfl rfl ?_|refine zV rfl rfl rfl ?_|refine zf rfl ?_|refine zt rfl ?_)
  refine o_alloc rfl rfl rfl rfl ?_
  intro bx w2 hbx hu2
  (repeat first|refine zA ?_|refine zB ?_|refine zC ?_|refine zD ?_|refine zE ?_|refine zg ?_|refine zo rfl rfl (by first|exact trivial|(simp only[AllP];omega)|(simp(discharger:=omega)only[AllP,cA,cB];omega)|(simp only[AllP,cC,cD,cE,cF,cG];omega)) ?_|refine zn ?_|refine zb ?_|refine ze rfl ?_|refine zr ?_|refine zk ?_|refine zT rfl rfl rfl ?_|refine zU rfl rfl rfl ?_|refine zV rfl rfl rfl ?_|refine zf rfl ?_|refine zt rfl ?_)
  refine o_store rfl hu2.blk (by decide) rfl rfl rfl rfl rfl rfl ?_
  intro w3 hu3
  have k2 : Kp [] w1 w2 := hu2.kp [] (.inr (by omega))
  have k3 : Kp [] w1 w3 := k2.since (hu3.kp [bx] (.inl (by simp))) (by simp; omega)
  (repeat first|refine zA ?_|refine zB ?_|refine zC ?_|refine zD ?_|refine zE ?_|refine zg ?_|refine zo rfl rfl (by first|exact trivial|(simp only[AllP];omega)|(simp(discharger:=omega)only[AllP,cA,cB];omega)|(simp only[AllP,cC,cD,cE,cF,cG];omega)) ?_|refine zn ?_|refine zb ?_|refine ze rfl ?_|refine zr ?_|refine zk ?_|refine zT rfl rfl rfl ?_|refine zU rfl rfl rfl ?_|refine zV rfl rfl rfl ?_|refine zf rfl ?_|refine zt rfl ?_)
  exact ⟨_, rfl, [bx], ⟨_, _, rfl, pairs_iter0 hu3.blk⟩, k3, by simp; omega⟩

/-! ### pairs: the law's reading -/
def pairsN (xs : List (Nat × Nat)) (most : Int) : List (Nat × Nat) := if 0 ≤ most then xs.take most.toNat else xs
def flatP (xs : List (Nat × Nat)) : List Nat := xs.flatMap fun x => [x.1, x.2]
theorem flatP_len (xs : List (Nat × Nat)) : (flatP xs).length = 2 * xs.length := by
  induction xs with
  | nil => rfl
  | cons x r ih => unfold flatP at *; rw [List.flatMap_cons, List.length_append, ih]; simp; omega
theorem flatP_snoc (xs : List (Nat × Nat)) (x : Nat × Nat) : flatP (xs ++ [x]) = flatP xs ++ [x.1, x.2] := by unfold flatP; rw [List.flatMap_append]; simp
structure PairsI (w : World) (bm bx bn : Nat) (most : Int) (pre : List (Nat × Nat)) (W : World) (ad : Option Addr) (cap : Nat) : Prop where
  bm_ : Blk W bm [I most] 3
  bn_ : Blk W bn [I pre.length] 3
  bx_ : Blk W bx [.slice ad (flatP pre).length cap] 22
  own : OwnS W 3 1 ad (flatP pre).length cap ((flatP pre).map encI)
  kp : Kp [] w W
  ne : bx ∉ blkOf ad
  nn : bn ∉ bm :: bx :: blkOf ad
  nm : bm ∉ bx :: blkOf ad
  new : ∀ b, b ∈ blkOf ad → w.heap.size ≤ b
  new3 : w.heap.size ≤ bm ∧ w.heap.size ≤ bx ∧ w.heap.size ≤ bn
  few : 0 ≤ most → (pre.length : Int) ≤ most
theorem PairsI.nc {bm bx bn : Nat} {most : Int} {pre : List (Nat × Nat)} {W W' : World} {ad : Option Addr} {cap B : Nat} (h : PairsI w bm bx bn most pre W ad cap) (hn : Nc B W W') (hB : w.heap.size ≤ B) : PairsI w bm bx bn most pre W' ad cap :=
  ⟨hn.blk h.bm_, hn.blk h.bn_, hn.blk h.bx_, hn.own h.own, hn.kp h.kp hB, h.ne, h.nn, h.nm, h.new, h.new3, h.few⟩
theorem pairs_ret {v : Value} {Fp : List Nat} {xs : List (Nat × Nat)} (h : SeqP w v Fp xs) (hx : xs.length ≤ 4194304) {most : Int} (hmost : -9223372036854775808 ≤ most ∧ most ≤ 9223372036854775807) :
    Ret Tryd.prog 33 [v, I most] w (fun v w' => ∃ ad cap, v = .slice ad (flatP (pairsN xs most)).length cap ∧ NewS w 3 w' ad (flatP (pairsN xs most)).length cap ((flatP (pairsN xs most)).map encI)) := by
  obtain ⟨f, lb, rfl, hI⟩ := h.is
  refine enterM Tryd.call33 Tryd.func33 rfl rfl rfl rfl ?_
  refine m_seq (m_of ?_)
  (repeat first|refine zA ?_|refine zB ?_|refine zC ?_|refine zD ?_|refine zE ?_|refine zg ?_|refine zo rfl rfl (by first|exact trivial|(simp only[AllP];omega)|(simp(discharger:=omega)only[AllP,cA,cB];omega)|(simp only[AllP,cC,cD,cE,cF,cG];omega)) ?_|refine zn ?_|refine zb ?_|refine ze rfl ?_|refine zr ?_|refine zk ?_|refine zT rfl rfl rfl ?_|refine zU rfl rfl rfl ?_|refine zV rfl rfl rfl ?_|refine zf rfl ?_|refine zt rfl ?_)
  refine o_box rfl rfl rfl ?_
  intro bm w1 hbm hu1
  (repeat first|refine zA ?_|refine zB ?_|refine zC ?_|refine zD ?_|refine zE ?_|refine zg ?_|refine zo rfl rfl (by first|exact trivial|(simp only[AllP];omega)|(simp(discharger:=omega)only[AllP,cA,cB];omega)|(simp only[AllP,cC,cD,cE,cF,cG];omega)) ?_|refine zn ?_|refine zb ?_|refine ze rfl ?_|refine zr ?_|refine zk ?_|refine zT rfl rfl rfl ?_|refine zU rfl rfl rfl ?_|refine zV rfl rfl rfl ?_|refine zf rfl ?_|refine zt rfl ?_)
  refine m_seq (m_of ?_)
  (repeat first|refine zA ?_|refine zB ?_|refine zC ?_|refine zD ?_|refine zE ?_|refine zg ?_|refine zo rfl rfl (by first|exact trivial|(simp only[AllP];omega)|(simp(discharger:=omega)only[AllP,cA,cB];omega)|(simp only[AllP,cC,cD,cE,cF,cG];omega)) ?_|refine zn ?_|refine zb ?_|refine ze rfl ?_|refine zr ?_|refine zk ?_|refine zT rfl rfl rfl ?_|refine zU rfl rfl rfl ?_|refine zV rfl rfl rfl ?_|refine zf rfl ?_|refine zt rfl ?_)
  refine o_alloc rfl rfl rfl rfl ?_
  intro bx w2 hbx hu2
  (repeat first|refine zA ?_|refine zB ?_|refine zC ?_|refine zD ?_|refine zE ?_|refine zg ?_|refine zo rfl rfl (by first|exact trivial|(simp only[AllP];omega)|(simp(discharger:=omega)only[AllP,cA,cB];omega)|(simp only[AllP,cC,cD,cE,cF,cG];omega)) ?_|refine zn ?_|refine zb ?_|refine ze rfl ?_|refine zr ?_|refine zk ?_|refine zT rfl rfl rfl ?_|refine zU rfl rfl rfl ?_|refine zV rfl rfl rfl ?_|refine zf rfl ?_|refine zt rfl ?_)
  refine m_seq (m_of ?_)
  (repeat first|refine zA ?_|refine zB ?_|refine zC ?_|refine zD ?_|refine zE ?_|refine zg ?_|refine zo rfl rfl (by first|exact trivial|(simp only[AllP];omega)|(simp(discharger:=omega)only[AllP,cA,cB];omega)|(simp only[AllP,cC,cD,cE,cF,cG];omega)) ?_|refine zn ?_|refine zb ?_|refine ze rfl ?_|refine zr ?_|refine zk ?_|refine zT rfl rfl rfl ?_|refine zU rfl rfl rfl ?_|refine zV rfl rfl rfl ?_|refine zf rfl ?_|refine zt rfl ?_)
  refine m_seq (m_of ?_)
  (repeat first|refine zA ?_|refine zB ?_|refine zC ?_|refine zD ?_|refine zE ?_|refine zg ?_|refine zo rfl rfl (by first|exact trivial|(simp only[AllP];omega)|(simp(discharger:=omega)only[AllP,cA,cB];omega)|(simp only[AllP,cC,cD,cE,cF,cG];omega)) ?_|refine zn ?_|refine zb ?_|refine ze rfl ?_|refine zr ?_|refine zk ?_|refine zT rfl rfl rfl ?_|refine zU rfl rfl rfl ?_|refine zV rfl rfl rfl ?_|refine zf rfl ?_|refine zt rfl ?_)
  refine o_alloc rfl rfl rfl rfl ?_
  intro bn w3 hbn hu3
  (repeat first|refine zA ?_|refine zB ?_|refine zC ?_|refine zD ?_|refine zE ?_|refine zg ?_|refine zo rfl rfl (by first|exact trivial|(simp only[AllP];omega)|(simp(discharger:=omega)only[AllP,cA,cB];omega)|(simp only[AllP,cC,cD,cE,cF,cG];omega)) ?_|refine zn ?_|refine zb ?_|refine ze rfl ?_|refine zr ?_|refine zk ?_|refine zT rfl rfl rfl ?_|refine zU rfl rfl rfl ?_|refine zV rfl rfl rfl ?_|refine zf rfl ?_|refine zt rfl ?_)
  refine o_store rfl hu3.blk (by decide) rfl rfl rfl rfl rfl rfl ?_
  intro w4 hu4
  have k2 : Kp [] w w2 := (hu1.kp [] (.inr (by omega))).trans (hu2.kp [] (.inr (by omega)))
  have hs1 := hu1.size
  have hs2 := hu2.size
  have hlt1 := hu1.lt
  have hlt2 := hu2.lt
  have k4 : Kp [] w w4 := (k2.trans (hu3.kp [] (.inr (by omega)))).since (hu4.kp [bn] (.inl (by simp))) (by simp; omega)
  have hI2 := hI.kp k4.size (fun b hb => k4.at_ b (hI.1 b hb) (by simp))
  have g0 : PairsI w bm bx bn most [] w4 none 0 := ⟨hu4.kept (by omega) (hu3.kept (by omega) (hu2.kept (by omega) hu1.blk)), hu4.blk, hu4.kept (by omega) (hu3.kept (by omega) hu2.blk), ownS_nil _ _ _, k4, by simp [blkOf], by simp [blkOf]; omega, by simp [blkOf]; omega, by simp [blkOf], by omega, fun h => by simpa using h⟩
  (repeat first|refine zA ?_|refine zB ?_|refine zC ?_|refine zD ?_|refine zE ?_|refine zg ?_|refine zo rfl rfl (by first|exact trivial|(simp only[AllP];omega)|(simp(discharger:=omega)only[AllP,cA,cB];omega)|(simp only[AllP,cC,cD,cE,cF,cG];omega)) ?_|refine zn ?_|refine zb ?_|refine ze rfl ?_|refine zr ?_|refine zk ?_|refine zT rfl rfl rfl ?_|refine zU rfl rfl rfl ?_|refine zV rfl rfl rfl ?_|refine zf rfl ?_|refine zt rfl ?_)
  refine m_seq (m_seq (m_of ?_))
  (repeat first|refine zA ?_|refine zB ?_|refine zC ?_|refine zD ?_|refine zE ?_|refine zg ?_|refine zo rfl rfl (by first|exact trivial|(simp only[AllP];omega)|(simp(discharger:=omega)only[AllP,cA,cB];omega)|(simp only[AllP,cC,cD,cE,cF,cG];omega)) ?_|refine zn ?_|refine zb ?_|refine ze rfl ?_|refine zr ?_|refine zk ?_|refine zT rfl rfl rfl ?_|refine zU rfl rfl rfl ?_|refine zV rfl rfl rfl ?_|refine zf rfl ?_|refine zt rfl ?_)
  refine m_block ?_
  refine m_range hI2 [0] (fun pre W => ∃ ad cap, PairsI w bm bx bn most pre W ad cap) (fun c pre W => c = .exit 0 ∧ ∃ pre0 x ad cap, pre = pre0 ++ [x] ∧ PairsI w bm bx bn most pre0 W ad cap ∧ (pre0.length : Int) = most) rfl rfl (fun _ => rfl) ?_ ?_ ?_ ?_ ?_ ?_
  · rintro pre W1 W2 ⟨ad, cap, hg⟩ hnc
    exact ⟨ad, cap, hg.nc hnc k4.size⟩
  · rintro c pre W1 W2 ⟨hc, pre0, x, ad, cap, h1, hg, h2⟩ hnc
    exact ⟨hc, pre0, x, ad, cap, h1, hg.nc hnc k4.size, h2⟩
  · exact ⟨none, 0, g0⟩
  · intro D l r pre x post W hx' hD hl
    (repeat first|refine zA ?_|refine zB ?_|refine zC ?_|refine zD ?_|refine zE ?_|refine zg ?_|refine zo rfl rfl (by first|exact trivial|(simp only[AllP];omega)|(simp(discharger:=omega)only[AllP,cA,cB];omega)|(simp only[AllP,cC,cD,cE,cF,cG];omega)) ?_|refine zn ?_|refine zb ?_|refine ze rfl ?_|refine zr ?_|refine zk ?_|refine zT rfl rfl rfl ?_|refine zU rfl rfl rfl ?_|refine zV rfl rfl rfl ?_|refine zf rfl ?_|refine zt rfl ?_)
    refine ⟨rfl, ?_⟩
    rintro W2 ⟨ad, cap, hg⟩ hkeep
    have hpl : pre.length + 1 ≤ xs.length := by rw [hx']; simp
    have hfl := flatP_len pre
    (repeat first|refine zA ?_|refine zB ?_|refine zC ?_|refine zD ?_|refine zE ?_|refine zg ?_|refine zo rfl rfl (by first|exact trivial|(simp only[AllP];omega)|(simp(discharger:=omega)only[AllP,cA,cB];omega)|(simp only[AllP,cC,cD,cE,cF,cG];omega)) ?_|refine zn ?_|refine zb ?_|refine ze rfl ?_|refine zr ?_|refine zk ?_|refine zT rfl rfl rfl ?_|refine zU rfl rfl rfl ?_|refine zV rfl rfl rfl ?_|refine zf rfl ?_|refine zt rfl ?_)
    refine o_load rfl hg.bn_ rfl rfl rfl rfl rfl ?_
    (repeat first|refine zA ?_|refine zB ?_|refine zC ?_|refine zD ?_|refine zE ?_|refine zg ?_|refine zo rfl rfl (by first|exact trivial|(simp only[AllP];omega)|(simp(discharger:=omega)only[AllP,cA,cB];omega)|(simp only[AllP,cC,cD,cE,cF,cG];omega)) ?_|refine zn ?_|refine zb ?_|refine ze rfl ?_|refine zr ?_|refine zk ?_|refine zT rfl rfl rfl ?_|refine zU rfl rfl rfl ?_|refine zV rfl rfl rfl ?_|refine zf rfl ?_|refine zt rfl ?_)
    refine o_load rfl hg.bm_ rfl rfl rfl rfl rfl ?_
    (repeat first|refine zA ?_|refine zB ?_|refine zC ?_|refine zD ?_|refine zE ?_|refine zg ?_|refine zo rfl rfl (by first|exact trivial|(simp only[AllP];omega)|(simp(discharger:=omega)only[AllP,cA,cB];omega)|(simp only[AllP,cC,cD,cE,cF,cG];omega)) ?_|refine zn ?_|refine zb ?_|refine ze rfl ?_|refine zr ?_|refine zk ?_|refine zT rfl rfl rfl ?_|refine zU rfl rfl rfl ?_|refine zV rfl rfl rfl ?_|refine zf rfl ?_|refine zt rfl ?_)
    refine r_if rfl (fun hc => ?_) (fun hc => ?_)
    · (repeat first|refine zA ?_|refine zB ?_|refine zC ?_|refine zD ?_|refine zE ?_|refine zg ?_|refine zo rfl rfl (by first|exact trivial|(simp only[AllP];omega)|(simp(discharger:=omega)only[AllP,cA,cB];omega)|(simp only[AllP,cC,cD,cE,cF,cG];omega)) ?_|refine zn ?_|refine zb ?_|refine ze rfl ?_|refine zr ?_|refine zk ?_|refine zT rfl rfl rfl ?_|refine zU rfl rfl rfl ?_|refine zV rfl rfl rfl ?_|refine zf rfl ?_|refine zt rfl ?_)
      exact ⟨⟨rfl, pre, x, ad, cap, rfl, hg, hc⟩, hkeep⟩
    · (repeat first|refine zA ?_|refine zB ?_|refine zC ?_|refine zD ?_|refine zE ?_|refine zg ?_|refine zo rfl rfl (by first|exact trivial|(simp only[AllP];omega)|(simp(discharger:=omega)only[AllP,cA,cB];omega)|(simp only[AllP,cC,cD,cE,cF,cG];omega)) ?_|refine zn ?_|refine zb ?_|refine ze rfl ?_|refine zr ?_|refine zk ?_|refine zT rfl rfl rfl ?_|refine zU rfl rfl rfl ?_|refine zV rfl rfl rfl ?_|refine zf rfl ?_|refine zt rfl ?_)
      refine o_load rfl hg.bx_ rfl rfl rfl rfl rfl ?_
      (repeat first|refine zA ?_|refine zB ?_|refine zC ?_|refine zD ?_|refine zE ?_|refine zg ?_|refine zo rfl rfl (by first|exact trivial|(simp only[AllP];omega)|(simp(discharger:=omega)only[AllP,cA,cB];omega)|(simp only[AllP,cC,cD,cE,cF,cG];omega)) ?_|refine zn ?_|refine zb ?_|refine ze rfl ?_|refine zr ?_|refine zk ?_|refine zT rfl rfl rfl ?_|refine zU rfl rfl rfl ?_|refine zV rfl rfl rfl ?_|refine zf rfl ?_|refine zt rfl ?_)
      refine o_buildSlice [I (x.1 : Int), I (x.2 : Int)] rfl (by simp [Value.oneCell']) rfl (by decide) (by decide) rfl rfl rfl rfl rfl ?_
      intro b3 W3 hb3 hu3
      have kk3 : Kp [] W2 W3 := hu3.kp [] (.inr (by omega))
      refine o_append (ay := ⟨b3, 0, none⟩) (m := 2) [I (x.1 : Int), I (x.2 : Int)] rfl rfl (hg.own.kp kk3 (by simp)) ?_ rfl rfl rfl (by omega) (by simp) (by omega) (by simp [Value.oneCell']) (by simp only [maxLen]; omega) (by omega) rfl rfl ?_
      · intro j v hv
        rw [addr_lit, Nat.zero_add]; exact hu3.blk.cell hv
      intro ad4 cap4 W4 ho4 kk4 hnew4
      have hB4 : Blk W4 bx [.slice ad (flatP pre).length cap] 22 := kk4.blk hg.ne (kk3.blk (by simp) hg.bx_)
      have hM4 : Blk W4 bm [I most] 3 := kk4.blk (fun h => hg.nm (by simp [h])) (kk3.blk (by simp) hg.bm_)
      have hN4 : Blk W4 bn [I pre.length] 3 := kk4.blk (fun h => hg.nn (by simp [h])) (kk3.blk (by simp) hg.bn_)
      (repeat first|refine zA ?_|refine zB ?_|refine zC ?_|refine zD ?_|refine zE ?_|refine zg ?_|refine zo rfl rfl (by first|exact trivial|(simp only[AllP];omega)|(simp(discharger:=omega)only[AllP,cA,cB];omega)|(simp only[AllP,cC,cD,cE,cF,cG];omega)) ?_|refine zn ?_|refine zb ?_|refine ze rfl ?_|refine zr ?_|refine zk ?_|refine zT rfl rfl rfl ?_|refine zU rfl rfl rfl ?_|refine zV rfl rfl rfl ?_|refine zf rfl ?_|refine zt rfl ?_)
      refine o_store rfl hB4 (by simp) rfl rfl rfl rfl rfl rfl ?_
      intro W5 hu5
      have hs3 := hu3.size
      have hlx := hg.bx_.lt
      have hlm := hg.bm_.lt
      have hln := hg.bn_.lt
      have hkp := hg.kp.size
      have hnmx : bm ≠ bx := fun h => hg.nm (by simp [h])
      have hnnx : bn ≠ bx := fun h => hg.nn (by simp [h])
      have hnnm : bn ≠ bm := fun h => hg.nn (by simp [h])
      have hN5 := hu5.kept hnnx hN4
      (repeat first|refine zA ?_|refine zB ?_|refine zC ?_|refine zD ?_|refine zE ?_|refine zg ?_|refine zo rfl rfl (by first|exact trivial|(simp only[AllP];omega)|(simp(discharger:=omega)only[AllP,cA,cB];omega)|(simp only[AllP,cC,cD,cE,cF,cG];omega)) ?_|refine zn ?_|refine zb ?_|refine ze rfl ?_|refine zr ?_|refine zk ?_|refine zT rfl rfl rfl ?_|refine zU rfl rfl rfl ?_|refine zV rfl rfl rfl ?_|refine zf rfl ?_|refine zt rfl ?_)
      refine o_load rfl hN5 rfl rfl rfl rfl rfl ?_
      (repeat first|refine zA ?_|refine zB ?_|refine zC ?_|refine zD ?_|refine zE ?_|refine zg ?_|refine zo rfl rfl (by first|exact trivial|(simp only[AllP];omega)|(simp(discharger:=omega)only[AllP,cA,cB];omega)|(simp only[AllP,cC,cD,cE,cF,cG];omega)) ?_|refine zn ?_|refine zb ?_|refine ze rfl ?_|refine zr ?_|refine zk ?_|refine zT rfl rfl rfl ?_|refine zU rfl rfl rfl ?_|refine zV rfl rfl rfl ?_|refine zf rfl ?_|refine zt rfl ?_)
      refine o_store rfl hN5 (by simp) rfl rfl rfl rfl rfl rfl ?_
      intro W6 hu6
      have hbx4 : bx ∉ blkOf ad4 := fun hb => by
        rcases hnew4 bx hb with h | h
        · exact hg.ne h
        · omega
      have hbm4 : bm ∉ bx :: blkOf ad4 := fun hb => by
        rcases List.mem_cons.1 hb with h | hb
        · exact hnmx h
        · rcases hnew4 bm hb with h | h
          · exact hg.nm (by simp [h])
          · omega
      have hbn4 : bn ∉ bm :: bx :: blkOf ad4 := fun hb => by
        rcases List.mem_cons.1 hb with h | hb
        · exact hnnm h
        · rcases List.mem_cons.1 hb with h | hb
          · exact hnnx h
          · rcases hnew4 bn hb with h | h
            · exact hg.nn (by simp [h])
            · omega
      have kall : Kp (bn :: bx :: blkOf ad) W2 W6 := (((kk3.mono (S' := bn :: bx :: blkOf ad) (by simp)).after kk4 (fun b hb => .inl (by simp [hb]))).after (hu5.kp [bx] (.inl (by simp))) (fun b hb => .inl (by simp at hb; simp [hb]))).after (hu6.kp [bn] (.inl (by simp))) (fun b hb => .inl (by simp at hb; simp [hb]))
      (repeat first|refine zA ?_|refine zB ?_|refine zC ?_|refine zD ?_|refine zE ?_|refine zg ?_|refine zo rfl rfl (by first|exact trivial|(simp only[AllP];omega)|(simp(discharger:=omega)only[AllP,cA,cB];omega)|(simp only[AllP,cC,cD,cE,cF,cG];omega)) ?_|refine zn ?_|refine zb ?_|refine ze rfl ?_|refine zr ?_|refine zk ?_|refine zT rfl rfl rfl ?_|refine zU rfl rfl rfl ?_|refine zV rfl rfl rfl ?_|refine zf rfl ?_|refine zt rfl ?_)
      have hfs := flatP_snoc pre x
      have hlen4 : (flatP pre).length + 2 = (flatP (pre ++ [x])).length := by rw [hfs]; simp
      refine ⟨⟨ad4, cap4, ?_, ?_, ?_, ?_, ?_, hbx4, hbn4, hbm4, ?_, hg.new3, ?_⟩, ?_⟩
      · exact hu6.kept (Ne.symm hnnm) (hu5.kept hnmx hM4)
      · have := hu6.blk
        rw [List.length_append]; exact this
      · rw [← hlen4]; exact hu6.kept (Ne.symm hnnx) hu5.blk
      · rw [← hlen4, hfs, List.map_append]
        exact (ho4.upd hu5 hbx4).upd hu6 (fun h => hbn4 (by simp [h]))
      · exact hg.kp.since kall (fun b hb => by
          have := hg.new3
          rcases List.mem_cons.1 hb with rfl | hb
          · omega
          · rcases List.mem_cons.1 hb with rfl | hb
            · omega
            · exact hg.new b hb)
      · intro b hb
        rcases hnew4 b hb with h | h
        · exact hg.new b h
        · omega
      · intro h0; have := hg.few h0; rw [List.length_append]; simp; omega
      · have hne := hkeep.ne_own hg.own
        have hne1 := hkeep.ne hg.bx_
        have hne2 := hkeep.ne hg.bn_
        have hn3 := hg.new3
        refine hkeep.kp (fun b hb => ?_) kall ?_ ?_ ?_
        · have := hI.1 b hb; omega
        · simp only [List.mem_cons, not_or]; exact ⟨Ne.symm hne2.1, Ne.symm hne1.1, hne.1⟩
        · simp only [List.mem_cons, not_or]; exact ⟨Ne.symm hne2.2, Ne.symm hne1.2, hne.2⟩
        · intro b hb hm
          have := hI.1 b hb
          rcases List.mem_cons.1 hm with rfl | hm
          · omega
          · rcases List.mem_cons.1 hm with rfl | hm
            · omega
            · have := hg.new b hm; omega
  · rintro D W hD ⟨ad, cap, hg⟩ hsh
    refine m_of ?_
    (repeat first|refine zA ?_|refine zB ?_|refine zC ?_|refine zD ?_|refine zE ?_|refine zg ?_|refine zo rfl rfl (by first|exact trivial|(simp only[AllP];omega)|(simp(discharger:=omega)only[AllP,cA,cB];omega)|(simp only[AllP,cC,cD,cE,cF,cG];omega)) ?_|refine zn ?_|refine zb ?_|refine ze rfl ?_|refine zr ?_|refine zk ?_|refine zT rfl rfl rfl ?_|refine zU rfl rfl rfl ?_|refine zV rfl rfl rfl ?_|refine zf rfl ?_|refine zt rfl ?_)
    refine o_load rfl hg.bx_ rfl rfl rfl rfl rfl ?_
    (repeat first|refine zA ?_|refine zB ?_|refine zC ?_|refine zD ?_|refine zE ?_|refine zg ?_|refine zo rfl rfl (by first|exact trivial|(simp only[AllP];omega)|(simp(discharger:=omega)only[AllP,cA,cB];omega)|(simp only[AllP,cC,cD,cE,cF,cG];omega)) ?_|refine zn ?_|refine zb ?_|refine ze rfl ?_|refine zr ?_|refine zk ?_|refine zT rfl rfl rfl ?_|refine zU rfl rfl rfl ?_|refine zV rfl rfl rfl ?_|refine zf rfl ?_|refine zt rfl ?_)
    refine ⟨_, rfl, hsh, ?_⟩
    intro W' hu
    have hnc : Nc w4.heap.size W W' := hu.nc (by omega) (fun x hx => by rw [hsh] at hx; cases hx; rfl)
    have e1 : pairsN xs most = xs := by
      unfold pairsN
      split
      · rename_i h0; have := hg.few h0; exact List.take_of_length_le (by omega)
      · rfl
    rw [e1]
    exact ⟨ad, cap, rfl, hnc.own hg.own, hnc.kp hg.kp k4.size, hg.new⟩
  · rintro D c pre post W hD _ hx' ⟨rfl, pre0, x, ad, cap, rfl, hg, hc⟩ hsh
    refine m_exit rfl ?_
    refine m_of ?_
    (repeat first|refine zA ?_|refine zB ?_|refine zC ?_|refine zD ?_|refine zE ?_|refine zg ?_|refine zo rfl rfl (by first|exact trivial|(simp only[AllP];omega)|(simp(discharger:=omega)only[AllP,cA,cB];omega)|(simp only[AllP,cC,cD,cE,cF,cG];omega)) ?_|refine zn ?_|refine zb ?_|refine ze rfl ?_|refine zr ?_|refine zk ?_|refine zT rfl rfl rfl ?_|refine zU rfl rfl rfl ?_|refine zV rfl rfl rfl ?_|refine zf rfl ?_|refine zt rfl ?_)
    refine o_load rfl hg.bx_ rfl rfl rfl rfl rfl ?_
    (repeat first|refine zA ?_|refine zB ?_|refine zC ?_|refine zD ?_|refine zE ?_|refine zg ?_|refine zo rfl rfl (by first|exact trivial|(simp only[AllP];omega)|(simp(discharger:=omega)only[AllP,cA,cB];omega)|(simp only[AllP,cC,cD,cE,cF,cG];omega)) ?_|refine zn ?_|refine zb ?_|refine ze rfl ?_|refine zr ?_|refine zk ?_|refine zT rfl rfl rfl ?_|refine zU rfl rfl rfl ?_|refine zV rfl rfl rfl ?_|refine zf rfl ?_|refine zt rfl ?_)
    refine ⟨_, rfl, hsh, ?_⟩
    intro W' hu
    have hnc : Nc w4.heap.size W W' := hu.nc (by omega) (fun x hx => by rw [hsh] at hx; cases hx; rfl)
    have e1 : pairsN xs most = pre0 := by
      unfold pairsN
      have h2 : most.toNat = pre0.length := by omega
      rw [if_pos (by omega), hx', h2, List.append_assoc, List.take_left]
    rw [e1]
    exact ⟨ad, cap, rfl, hnc.own hg.own, hnc.kp hg.kp k4.size, hg.new⟩
end Go.Vc
