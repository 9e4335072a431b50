/- bits: the document's relations: Turned, Close. -/
import Derived.Test.YtdfkhnhmcanncaaDoorBt29
namespace Go.Vc
open Go Go.Proofs
set_option maxRecDepth 10000
variable {w : World}

/-- the firsts of those pairs whose second is j -/
def tl (xs : List (Nat × Nat)) (j : Nat) : List Nat := (xs.filter fun x => decide (x.2 = j)).map (·.1)
theorem tl_snoc (xs : List (Nat × Nat)) (x : Nat × Nat) (j : Nat) : tl (xs ++ [x]) j = if j = x.2 then tl xs j ++ [x.1] else tl xs j := by
  unfold tl
  rw [List.filter_append, List.map_append]
  by_cases h : j = x.2
  · subst h; simp
  · have h' : ¬ x.2 = j := fun e => h e.symm
    simp [h, h']
theorem tl_len (xs : List (Nat × Nat)) (j : Nat) : (tl xs j).length ≤ xs.length := by
  unfold tl
  rw [List.length_map]
  exact List.length_filter_le _ _
theorem mem_tl {xs : List (Nat × Nat)} {i j : Nat} : i ∈ tl xs j ↔ (i, j) ∈ xs := by
  unfold tl
  rw [List.mem_map]
  constructor
  · rintro ⟨x, hx, rfl⟩
    rw [List.mem_filter] at hx
    have : x.2 = j := by simpa using hx.2
    rw [← this]; exact hx.1
  · intro h
    exact ⟨(i, j), List.mem_filter.2 ⟨h, by simp⟩, rfl⟩
theorem rowPairs_sorted (M : List (List Nat)) (i : Nat) : (rowPairs M i).Pairwise fun a b => a.1 = b.1 ∧ a.2 < b.2 := by
  unfold rowPairs
  rw [List.pairwise_map]
  exact (elems_sorted _).imp fun h => ⟨rfl, h⟩
theorem pairsL_sorted (n : Nat) (M : List (List Nat)) : (pairsL n M).Pairwise fun a b => a.1 < b.1 ∨ (a.1 = b.1 ∧ a.2 < b.2) := by
  induction n with
  | zero => exact List.Pairwise.nil
  | succ n ih =>
    rw [pairsL_succ, List.pairwise_append]
    refine ⟨ih, (rowPairs_sorted M n).imp .inr, fun a ha b hb => ?_⟩
    obtain ⟨a1, a2⟩ := a
    have h1 := (mem_pairsL.1 ha).1
    unfold rowPairs at hb
    obtain ⟨k, _, rfl⟩ := List.mem_map.1 hb
    exact .inl h1
theorem tl_sorted (n : Nat) (M : List (List Nat)) (j : Nat) : (tl (pairsL n M) j).Pairwise (· < ·) := by
  unfold tl
  rw [List.pairwise_map]
  have h := (pairsL_sorted n M).filter fun x => decide (x.2 = j)
  refine (List.pairwise_filter.1 h |> fun _ => h).imp_of_mem fun {a b} ha hb hab => ?_
  have h1 : a.2 = j := by simpa using (List.mem_filter.1 ha).2
  have h2 : b.2 = j := by simpa using (List.mem_filter.1 hb).2
  rcases hab with h | ⟨_, h⟩
  · exact h
  · omega
theorem tl_turned {n : Nat} {M : List (List Nat)} (h : MOk n M) (hin : InB n M) (j : Nat) : tl (pairsL n M) j = rowsF (turnedM n (pairsL n M)) j := by
  obtain ⟨_, hb, _⟩ := turned_ok h hin
  refine sorted_ext (tl_sorted n M j) (rowsF_sorted j) fun x => ?_
  rw [mem_tl, mem_rowsF, hb, mem_pairsL]
  constructor
  · exact fun h => h.2
  · intro hx
    refine ⟨?_, hx⟩
    apply Classical.byContradiction
    intro hn
    rw [bitM_out h (by omega)] at hx; cases hx
section
variable {p bw n : Nat} {As : Nat → Option Addr × Nat} {M : List (List Nat)}
theorem rTurned_nil : Ret Tryd.prog 44 [.pointer none] w (fun v w' => v = .pointer none ∧ w' = w) := by
  refine enter Tryd.call44 Tryd.func44 rfl rfl rfl rfl ?_
  (repeat first|refine zA ?_|refine zB ?_|refine zC ?_|refine zD ?_|refine zE ?_|refine zg ?_|refine zo rfl rfl (by first|exact trivial|(simp only[AllP];omega)|(simp(discharger:=omega)only[AllP,cA,cB];omega)|(simp only[AllP,cC,cD,cE,cF,cG];omega)) ?_|refine zn ?_|refine zb ?_|refine ze rfl ?_|refine zr ?_|refine zk ?_|refine zT rfl rfl rfl ?_|refine zU rfl rfl rfl ?_|refine zV rfl rfl rfl ?_|refine zf rfl ?_|refine zt rfl ?_)
  exact ⟨_, rfl, rfl, rfl⟩
theorem rTurned_ret (hT : TabW w) (h : RRel w p bw n As M) (hM : MOk n M) (hin : InB n M) :
    Ret Tryd.prog 44 [ptr p] w (fun v w' => ∃ q bq Aq, v = ptr q ∧ NewRR w q bq n w' Aq (turnedM n (pairsL n M))) := by
  have hn := h.small
  have hpl := pairsL_len n M (fun i hi => by
    obtain ⟨ws, _, h2, h3, _⟩ := hM.get hi
    rw [h2]; have : wid n ≤ 32 := by unfold wid; omega
    omega)
  refine enter Tryd.call44 Tryd.func44 rfl rfl rfl rfl ?_
  (repeat first|refine zA ?_|refine zB ?_|refine zC ?_|refine zD ?_|refine zE ?_|refine zg ?_|refine zo rfl rfl (by first|exact trivial|(simp only[AllP];omega)|(simp(discharger:=omega)only[AllP,cA,cB];omega)|(simp only[AllP,cC,cD,cE,cF,cG];omega)) ?_|refine zn ?_|refine zb ?_|refine ze rfl ?_|refine zr ?_|refine zk ?_|refine zT rfl rfl rfl ?_|refine zU rfl rfl rfl ?_|refine zV rfl rfl rfl ?_|refine zf rfl ?_|refine zt rfl ?_)
  refine o_load rfl h.hdr rfl rfl rfl rfl rfl ?_
  (repeat first|refine zA ?_|refine zB ?_|refine zC ?_|refine zD ?_|refine zE ?_|refine zg ?_|refine zo rfl rfl (by first|exact trivial|(simp only[AllP];omega)|(simp(discharger:=omega)only[AllP,cA,cB];omega)|(simp only[AllP,cC,cD,cE,cF,cG];omega)) ?_|refine zn ?_|refine zb ?_|refine ze rfl ?_|refine zr ?_|refine zk ?_|refine zT rfl rfl rfl ?_|refine zU rfl rfl rfl ?_|refine zV rfl rfl rfl ?_|refine zf rfl ?_|refine zt rfl ?_)
  refine o_make1 (len := (n : Int)) (cap := (n : Int)) (kl := .i64) (kc := .i64) rfl rfl rfl rfl rfl (by omega) (by omega) (by omega) (by omega) rfl rfl ?_
  intro bq w2 hbq hu2
  rw [Int.toNat_natCast] at hu2 ⊢
  (repeat first|refine zA ?_|refine zB ?_|refine zC ?_|refine zD ?_|refine zE ?_|refine zg ?_|refine zo rfl rfl (by first|exact trivial|(simp only[AllP];omega)|(simp(discharger:=omega)only[AllP,cA,cB];omega)|(simp only[AllP,cC,cD,cE,cF,cG];omega)) ?_|refine zn ?_|refine zb ?_|refine ze rfl ?_|refine zr ?_|refine zk ?_|refine zT rfl rfl rfl ?_|refine zU rfl rfl rfl ?_|refine zV rfl rfl rfl ?_|refine zf rfl ?_|refine zt rfl ?_)
  refine o_build [.slice (some ⟨bq, 0, none⟩) n n] rfl rfl rfl rfl rfl rfl rfl ?_
  refine o_box rfl rfl rfl ?_
  intro q w3 hq hu3
  have k2 : Kp [] w w2 := hu2.kp [] (.inr (by omega))
  have k3 : Kp [] w2 w3 := hu3.kp [] (.inr (by omega))
  have s2 := hu2.size
  have l2 := hu2.lt
  have hls := (lsAt_none hu2.blk).kp0 k3
  have hb1 : ∀ b, b ∈ rrBlks q bq n (fun _ => ((none : Option Addr), 0)) → w.heap.size ≤ b := fun b hb => by
    rcases List.mem_cons.1 hb with rfl | hb
    · omega
    · rcases mem_lsBlks.1 hb with rfl | ⟨i, _, hb⟩
      · omega
      · simp [blkOf] at hb
  have hq3 := hu3.blk
  have k03 := k2.trans k3
  clear k2 k3 hu2 hu3 hbq hq
  (repeat first|refine zA ?_|refine zB ?_|refine zC ?_|refine zD ?_|refine zE ?_|refine zg ?_|refine zo rfl rfl (by first|exact trivial|(simp only[AllP];omega)|(simp(discharger:=omega)only[AllP,cA,cB];omega)|(simp only[AllP,cC,cD,cE,cF,cG];omega)) ?_|refine zn ?_|refine zb ?_|refine ze rfl ?_|refine zr ?_|refine zk ?_|refine zT rfl rfl rfl ?_|refine zU rfl rfl rfl ?_|refine zV rfl rfl rfl ?_|refine zf rfl ?_|refine zt rfl ?_)
  -- the turned one, of the pairs xs
  refine r_loop (α := Nat × (Nat → Option Addr × Nat)) [0, 3, 4] (fun g => [ptr p, ptr q, I g.1]) (fun g wc => Blk wc q [.slice (some ⟨bq, 0, none⟩) n n] 110 ∧ LsAt wc 106 bq n g.2 (tl (pairsL g.1 M)) ∧ Kp [] w wc ∧ (∀ b, b ∈ rrBlks q bq n g.2 → w.heap.size ≤ b) ∧ g.1 ≤ n) (fun g => n - g.1) (0, fun _ => (none, 0)) rfl ⟨hq3, hls, k03, hb1, by omega⟩ ?_
  clear hls hb1 k03 hq3 l2 s2
  clear w3 w2
  rintro ⟨i, Aq⟩ e wc ⟨hq, hls, hk, hnew, hi⟩
  dsimp only at hq hls hk hnew hi ⊢
  have hc := h.kp0 hk
  (repeat first|refine zA ?_|refine zB ?_|refine zC ?_|refine zD ?_|refine zE ?_|refine zg ?_|refine zo rfl rfl (by first|exact trivial|(simp only[AllP];omega)|(simp(discharger:=omega)only[AllP,cA,cB];omega)|(simp only[AllP,cC,cD,cE,cF,cG];omega)) ?_|refine zn ?_|refine zb ?_|refine ze rfl ?_|refine zr ?_|refine zk ?_|refine zT rfl rfl rfl ?_|refine zU rfl rfl rfl ?_|refine zV rfl rfl rfl ?_|refine zf rfl ?_|refine zt rfl ?_)
  refine o_load rfl hc.hdr rfl rfl rfl rfl rfl ?_
  (repeat first|refine zA ?_|refine zB ?_|refine zC ?_|refine zD ?_|refine zE ?_|refine zg ?_|refine zo rfl rfl (by first|exact trivial|(simp only[AllP];omega)|(simp(discharger:=omega)only[AllP,cA,cB];omega)|(simp only[AllP,cC,cD,cE,cF,cG];omega)) ?_|refine zn ?_|refine zb ?_|refine ze rfl ?_|refine zr ?_|refine zk ?_|refine zT rfl rfl rfl ?_|refine zU rfl rfl rfl ?_|refine zV rfl rfl rfl ?_|refine zf rfl ?_|refine zt rfl ?_)
  refine r_if rfl (fun hcc => ?_) (fun hcc => ?_)
  rotate_left
  · have : i = n := by omega
    subst this
    (repeat first|refine zA ?_|refine zB ?_|refine zC ?_|refine zD ?_|refine zE ?_|refine zg ?_|refine zo rfl rfl (by first|exact trivial|(simp only[AllP];omega)|(simp(discharger:=omega)only[AllP,cA,cB];omega)|(simp only[AllP,cC,cD,cE,cF,cG];omega)) ?_|refine zn ?_|refine zb ?_|refine ze rfl ?_|refine zr ?_|refine zk ?_|refine zT rfl rfl rfl ?_|refine zU rfl rfl rfl ?_|refine zV rfl rfl rfl ?_|refine zf rfl ?_|refine zt rfl ?_)
    refine ⟨_, rfl, q, bq, Aq, rfl, ⟨hq, hls.congr fun j _ => tl_turned hM hin j, hn, fun hm => ?_⟩, hk, hnew⟩
    have := hnew _ hm; have := hT.lt; omega
  have hlt : i < n := by omega
  have hlen := rowsF_len hM hn i
  have hlc : (lsRow n As (rowsF M))[0 + i]? = some (.slice (As i).1 (rowsF M i).length (As i).2) := by rw [Nat.zero_add]; exact lsRow_get _ _ hlt
  obtain ⟨tail, htail⟩ := pairsL_split M hlt
  have hpi : (pairsL i M).length + (rowPairs M i).length ≤ (pairsL n M).length := by rw [htail, List.length_append, List.length_append]; omega
  have hrp : (rowPairs M i).length = (rowsF M i).length := by unfold rowPairs rowsF; simp
  (repeat first|refine zA ?_|refine zB ?_|refine zC ?_|refine zD ?_|refine zE ?_|refine zg ?_|refine zo rfl rfl (by first|exact trivial|(simp only[AllP];omega)|(simp(discharger:=omega)only[AllP,cA,cB];omega)|(simp only[AllP,cC,cD,cE,cF,cG];omega)) ?_|refine zn ?_|refine zb ?_|refine ze rfl ?_|refine zr ?_|refine zk ?_|refine zT rfl rfl rfl ?_|refine zU rfl rfl rfl ?_|refine zV rfl rfl rfl ?_|refine zf rfl ?_|refine zt rfl ?_)
  refine r_loop (α := Nat × (Nat → Option Addr × Nat)) [0, 3, 4, 5] (fun g => [ptr p, ptr q, I i, I g.1]) (fun g wd => Blk wd q [.slice (some ⟨bq, 0, none⟩) n n] 110 ∧ LsAt wd 106 bq n g.2 (tl (pairsL i M ++ (rowPairs M i).take g.1)) ∧ Kp [] w wd ∧ (∀ b, b ∈ rrBlks q bq n g.2 → w.heap.size ≤ b) ∧ g.1 ≤ (rowsF M i).length) (fun g => (rowsF M i).length - g.1) (0, Aq) rfl ⟨hq, by rw [List.take_zero, List.append_nil]; exact hls, hk, hnew, by omega⟩ ?_
  clear hq hls hk hnew hc
  clear wc
  rintro ⟨k, Ad⟩ e wd ⟨hq, hls, hk, hnew, hkl⟩
  dsimp only at hq hls hk hnew hkl ⊢
  have hd := h.kp0 hk
  (repeat first|refine zA ?_|refine zB ?_|refine zC ?_|refine zD ?_|refine zE ?_|refine zg ?_|refine zo rfl rfl (by first|exact trivial|(simp only[AllP];omega)|(simp(discharger:=omega)only[AllP,cA,cB];omega)|(simp only[AllP,cC,cD,cE,cF,cG];omega)) ?_|refine zn ?_|refine zb ?_|refine ze rfl ?_|refine zr ?_|refine zk ?_|refine zT rfl rfl rfl ?_|refine zU rfl rfl rfl ?_|refine zV rfl rfl rfl ?_|refine zf rfl ?_|refine zt rfl ?_)
  refine o_load rfl hd.hdr rfl rfl rfl rfl rfl ?_
  (repeat first|refine zA ?_|refine zB ?_|refine zC ?_|refine zD ?_|refine zE ?_|refine zg ?_|refine zo rfl rfl (by first|exact trivial|(simp only[AllP];omega)|(simp(discharger:=omega)only[AllP,cA,cB];omega)|(simp only[AllP,cC,cD,cE,cF,cG];omega)) ?_|refine zn ?_|refine zb ?_|refine ze rfl ?_|refine zr ?_|refine zk ?_|refine zT rfl rfl rfl ?_|refine zU rfl rfl rfl ?_|refine zV rfl rfl rfl ?_|refine zf rfl ?_|refine zt rfl ?_)
  refine o_load (v := .slice (As i).1 (rowsF M i).length (As i).2) rfl hd.ls.blk hlc rfl rfl rfl rfl ?_
  (repeat first|refine zA ?_|refine zB ?_|refine zC ?_|refine zD ?_|refine zE ?_|refine zg ?_|refine zo rfl rfl (by first|exact trivial|(simp only[AllP];omega)|(simp(discharger:=omega)only[AllP,cA,cB];omega)|(simp only[AllP,cC,cD,cE,cF,cG];omega)) ?_|refine zn ?_|refine zb ?_|refine ze rfl ?_|refine zr ?_|refine zk ?_|refine zT rfl rfl rfl ?_|refine zU rfl rfl rfl ?_|refine zV rfl rfl rfl ?_|refine zf rfl ?_|refine zt rfl ?_)
  refine r_if rfl (fun hc2 => ?_) (fun hc2 => ?_)
  rotate_left
  · have hke : k = (rowsF M i).length := by omega
    have hps : pairsL i M ++ (rowPairs M i).take k = pairsL (i + 1) M := by
      rw [pairsL_succ, List.take_of_length_le (by omega)]
    rw [hps] at hls
    (repeat first|refine zA ?_|refine zB ?_|refine zC ?_|refine zD ?_|refine zE ?_|refine zg ?_|refine zo rfl rfl (by first|exact trivial|(simp only[AllP];omega)|(simp(discharger:=omega)only[AllP,cA,cB];omega)|(simp only[AllP,cC,cD,cE,cF,cG];omega)) ?_|refine zn ?_|refine zb ?_|refine ze rfl ?_|refine zr ?_|refine zk ?_|refine zT rfl rfl rfl ?_|refine zU rfl rfl rfl ?_|refine zV rfl rfl rfl ?_|refine zf rfl ?_|refine zt rfl ?_)
    exact ⟨(i + 1, Ad), rfl, ⟨hq, hls, hk, hnew, by dsimp only; omega⟩, by dsimp only; omega⟩
  have hkr : k < (rowsF M i).length := by omega
  obtain ⟨x, hx⟩ : ∃ x, (rowsF M i)[k]? = some x := ⟨_, List.getElem?_eq_getElem hkr⟩
  have hxn : x < n := hin _ _ (mem_rowsF.1 (List.mem_of_getElem? hx))
  have hxp : (rowPairs M i)[k]? = some (i, x) := by
    unfold rowPairs
    rw [List.getElem?_map]
    have : (elems (M.getD i []))[k]? = some x := hx
    rw [this]; rfl
  have htk : (rowPairs M i).take (k + 1) = (rowPairs M i).take k ++ [(i, x)] := by rw [List.take_add_one, hxp]; rfl
  obtain ⟨br, orr, hAe, _, hcr⟩ := (hd.ls.row i hlt).read.at_ (by simp; omega)
  rw [hAe] at hlc
  (repeat first|refine zA ?_|refine zB ?_|refine zC ?_|refine zD ?_|refine zE ?_|refine zg ?_|refine zo rfl rfl (by first|exact trivial|(simp only[AllP];omega)|(simp(discharger:=omega)only[AllP,cA,cB];omega)|(simp only[AllP,cC,cD,cE,cF,cG];omega)) ?_|refine zn ?_|refine zb ?_|refine ze rfl ?_|refine zr ?_|refine zk ?_|refine zT rfl rfl rfl ?_|refine zU rfl rfl rfl ?_|refine zV rfl rfl rfl ?_|refine zf rfl ?_|refine zt rfl ?_)
  refine o_load rfl hd.hdr rfl rfl rfl rfl rfl ?_
  (repeat first|refine zA ?_|refine zB ?_|refine zC ?_|refine zD ?_|refine zE ?_|refine zg ?_|refine zo rfl rfl (by first|exact trivial|(simp only[AllP];omega)|(simp(discharger:=omega)only[AllP,cA,cB];omega)|(simp only[AllP,cC,cD,cE,cF,cG];omega)) ?_|refine zn ?_|refine zb ?_|refine ze rfl ?_|refine zr ?_|refine zk ?_|refine zT rfl rfl rfl ?_|refine zU rfl rfl rfl ?_|refine zV rfl rfl rfl ?_|refine zf rfl ?_|refine zt rfl ?_)
  refine o_load (v := .slice (some ⟨br, orr, none⟩) (rowsF M i).length (As i).2) rfl hd.ls.blk hlc rfl rfl rfl rfl ?_
  (repeat first|refine zA ?_|refine zB ?_|refine zC ?_|refine zD ?_|refine zE ?_|refine zg ?_|refine zo rfl rfl (by first|exact trivial|(simp only[AllP];omega)|(simp(discharger:=omega)only[AllP,cA,cB];omega)|(simp only[AllP,cC,cD,cE,cF,cG];omega)) ?_|refine zn ?_|refine zb ?_|refine ze rfl ?_|refine zr ?_|refine zk ?_|refine zT rfl rfl rfl ?_|refine zU rfl rfl rfl ?_|refine zV rfl rfl rfl ?_|refine zf rfl ?_|refine zt rfl ?_)
  refine o_loadc (v := I (x : Int)) rfl (hcr k _ (by rw [List.getElem?_map, hx]; rfl)) rfl rfl rfl rfl ?_
  (repeat first|refine zA ?_|refine zB ?_|refine zC ?_|refine zD ?_|refine zE ?_|refine zg ?_|refine zo rfl rfl (by first|exact trivial|(simp only[AllP];omega)|(simp(discharger:=omega)only[AllP,cA,cB];omega)|(simp only[AllP,cC,cD,cE,cF,cG];omega)) ?_|refine zn ?_|refine zb ?_|refine ze rfl ?_|refine zr ?_|refine zk ?_|refine zT rfl rfl rfl ?_|refine zU rfl rfl rfl ?_|refine zV rfl rfl rfl ?_|refine zf rfl ?_|refine zt rfl ?_)
  have hxs2 : (pairsL i M ++ (rowPairs M i).take k).length ≤ 4194304 := by simp; omega
  generalize hxs : pairsL i M ++ (rowPairs M i).take k = xs at hls hxs2
  have hnext : pairsL i M ++ (rowPairs M i).take (k + 1) = xs ++ [(i, x)] := by rw [htk, ← List.append_assoc, hxs]
  have htl := tl_len xs x
  refine r_mix (fun w' => Blk w' q [.slice (some ⟨bq, 0, none⟩) n n] 110 ∧ Blk w' bq (lsRow n Ad (tl xs)) 106) [(0, false), (1, false), (2, false), (3, false), (4, false), (5, false), (6, false), (7, false), (8, false), (9, false), (10, false), (11, false), (12, false), (13, false), (14, true), (15, true), (16, false), (17, false), (18, true)] follows_mixed (by kernel_rfl) (by kernel_rfl) (by kernel_rfl) ⟨(Sm.drew wd).blk hq, (Sm.drew wd).blk hls.blk⟩ ?_
  have hq := (Sm.drew wd).blk hq
  have hls := hls.kp0 ((Sm.drew wd).kp [])
  have hk := hk.trans ((Sm.drew wd).kp [])
  generalize ({ wd with drawn := wd.drawn + 1 } : World) = we at hq hls hk ⊢
  have hqls : ∀ b, b ∈ blkOf (Ad x).1 → q ≠ b := fun b hb e => by
    obtain ⟨l, hl⟩ := (hls.row x hxn).typed hb
    exact relRow_ne hq hl (by decide) e
  (repeat first|refine xo rfl rfl (by first|exact trivial|(simp only[AllP];omega)|(simp(discharger:=omega)only[AllP,cA,cB];omega)|(simp only[AllP,cC,cD,cE,cF,cG];omega)) ?_|refine xn ?_|refine x_know rfl _ _ (some true) rfl rfl rfl ?_|refine x_know rfl _ _ (some false) rfl rfl rfl ?_|refine x_know rfl _ _ none rfl rfl rfl ?_)
  refine x_load rfl rfl (fun w' h' => h'.1.cell rfl) rfl rfl rfl rfl ?_
  (repeat first|refine xo rfl rfl (by first|exact trivial|(simp only[AllP];omega)|(simp(discharger:=omega)only[AllP,cA,cB];omega)|(simp only[AllP,cC,cD,cE,cF,cG];omega)) ?_|refine xn ?_|refine x_know rfl _ _ (some true) rfl rfl rfl ?_|refine x_know rfl _ _ (some false) rfl rfl rfl ?_|refine x_know rfl _ _ none rfl rfl rfl ?_)
  refine x_load rfl rfl (fun w' h' => h'.1.cell rfl) rfl rfl rfl rfl ?_
  (repeat first|refine xo rfl rfl (by first|exact trivial|(simp only[AllP];omega)|(simp(discharger:=omega)only[AllP,cA,cB];omega)|(simp only[AllP,cC,cD,cE,cF,cG];omega)) ?_|refine xn ?_|refine x_know rfl _ _ (some true) rfl rfl rfl ?_|refine x_know rfl _ _ (some false) rfl rfl rfl ?_|refine x_know rfl _ _ none rfl rfl rfl ?_)
  refine x_load (v := .slice (Ad x).1 (tl xs x).length (Ad x).2) rfl rfl (fun w' h' => ?_) rfl rfl rfl rfl ?_
  · show w'.cell? ⟨bq, 0 + x, none⟩ = _
    rw [Nat.zero_add]; exact h'.2.cell (lsRow_get _ _ hxn)
  (repeat first|refine xo rfl rfl (by first|exact trivial|(simp only[AllP];omega)|(simp(discharger:=omega)only[AllP,cA,cB];omega)|(simp only[AllP,cC,cD,cE,cF,cG];omega)) ?_|refine xn ?_|refine x_know rfl _ _ (some true) rfl rfl rfl ?_|refine x_know rfl _ _ (some false) rfl rfl rfl ?_|refine x_know rfl _ _ none rfl rfl rfl ?_)
  refine x_act rfl ?_
  refine o_buildSlice [I (i : Int)] rfl (by simp [Value.oneCell']) rfl (by decide) (by decide) rfl rfl rfl rfl rfl ?_
  intro b4 w4 hb4 hu4
  have k4 : Kp [] we w4 := hu4.kp [] (.inr (by omega))
  refine o_nil ⟨.inr ⟨k4.blk (by simp) hq, k4.blk (by simp) hls.blk⟩, ?_⟩
  (repeat first|refine xo rfl rfl (by first|exact trivial|(simp only[AllP];omega)|(simp(discharger:=omega)only[AllP,cA,cB];omega)|(simp only[AllP,cC,cD,cE,cF,cG];omega)) ?_|refine xn ?_|refine x_know rfl _ _ (some true) rfl rfl rfl ?_|refine x_know rfl _ _ (some false) rfl rfl rfl ?_|refine x_know rfl _ _ none rfl rfl rfl ?_)
  refine x_act rfl ?_
  have hrow4 := (hls.kp0 k4).row x hxn
  refine o_append1 rfl rfl hrow4 hu4.blk rfl rfl rfl rfl (by simp only [maxLen]; omega) (by omega) rfl rfl ?_
  intro ad5 cap5 w5 ho5 k5 hnew5
  have hq5 := k5.blk (fun hm => hqls _ hm rfl) (k4.blk (by simp) hq)
  have hbq5 := k5.blk (hls.nbw (by decide) x hxn) (k4.blk (by simp) hls.blk)
  refine o_nil ⟨.inr ⟨hq5, hbq5⟩, ?_⟩
  (repeat first|refine xo rfl rfl (by first|exact trivial|(simp only[AllP];omega)|(simp(discharger:=omega)only[AllP,cA,cB];omega)|(simp only[AllP,cC,cD,cE,cF,cG];omega)) ?_|refine xn ?_|refine x_know rfl _ _ (some true) rfl rfl rfl ?_|refine x_know rfl _ _ (some false) rfl rfl rfl ?_|refine x_know rfl _ _ none rfl rfl rfl ?_)
  refine x_act rfl ?_
  refine o_store (off := x) (v := .slice ad5 ((tl xs x).length + 1) cap5) (c := none) ?_ hbq5 (by rw [lsRow_len]; exact hxn) rfl rfl rfl rfl rfl rfl ?_
  · show Value.pointer (some ⟨bq, 0 + x, none⟩) = _
    rw [Nat.zero_add]
  intro w6 hu6
  refine o_nil ⟨.inl (by kernel_rfl), ?_⟩
  (repeat first|refine xo rfl rfl (by first|exact trivial|(simp only[AllP];omega)|(simp(discharger:=omega)only[AllP,cA,cB];omega)|(simp only[AllP,cC,cD,cE,cF,cG];omega)) ?_|refine xn ?_|refine x_know rfl _ _ (some true) rfl rfl rfl ?_|refine x_know rfl _ _ (some false) rfl rfl rfl ?_|refine x_know rfl _ _ none rfl rfl rfl ?_)
  (repeat first|refine zA ?_|refine zB ?_|refine zC ?_|refine zD ?_|refine zE ?_|refine zg ?_|refine zo rfl rfl (by first|exact trivial|(simp only[AllP];omega)|(simp(discharger:=omega)only[AllP,cA,cB];omega)|(simp only[AllP,cC,cD,cE,cF,cG];omega)) ?_|refine zn ?_|refine zb ?_|refine ze rfl ?_|refine zr ?_|refine zk ?_|refine zT rfl rfl rfl ?_|refine zU rfl rfl rfl ?_|refine zV rfl rfl rfl ?_|refine zf rfl ?_|refine zt rfl ?_)
  have hlen1 : (tl xs x ++ [i]).length = (tl xs x).length + 1 := by simp
  obtain ⟨hl6, k6, hnew6⟩ := hls.put (L := tl xs x ++ [i]) (by decide) k4 hxn (by rw [hlen1, List.map_append]; exact ho5) k5 (fun b hb => by
    rcases hnew5 b hb with h1 | h1
    · exact .inl h1
    · have := hu4.size; exact .inr (by omega)) (by rw [hlen1]; exact hu6)
  refine ⟨(k + 1, fun j => if j = x then (ad5, cap5) else Ad j), rfl, ⟨?_, ?_, hk.since k6 (fun b hb => hnew b ?_), fun b hb => ?_, by dsimp only; omega⟩, by dsimp only; omega⟩
  · refine k6.blk (fun hm => ?_) hq
    rcases List.mem_cons.1 hm with e | hm
    · exact relRow_ne hq hls.blk (by decide) e
    · exact hqls _ hm rfl
  · dsimp only
    rw [hnext]
    refine hl6.congr fun j _ => ?_
    rw [tl_snoc]
    by_cases e : j = x
    · subst e; simp
    · simp [e]
  · rcases List.mem_cons.1 hb with rfl | hb
    · exact List.mem_cons_of_mem _ (mem_lsBlks.2 (.inl rfl))
    · exact List.mem_cons_of_mem _ (mem_lsBlks.2 (.inr ⟨x, hxn, hb⟩))
  · rcases List.mem_cons.1 hb with rfl | hb
    · exact hnew _ (by simp [rrBlks])
    · rcases hnew6 b hb with h1 | h1
      · exact hnew b (List.mem_cons_of_mem _ h1)
      · have := hk.size; omega
end
end Go.Vc
