/- The document's table of names: Find, Add, Name, Names, New, Copy; the program's table that is none. -/
import Derived.Test.YtghdpibdidfpbaaDoorQClNPlays16
import Derived.Test.YtghdpibdidfpbaaDoorQClNPlays21
import Derived.Test.YtghdpibdidfpbaaDoorQClNPlays13
namespace Go.Vc
open Go Go.Proofs
set_option maxRecDepth 10000
variable {w : World}
/-! ### a table that is none -/
def NoTab (w : World) (v : Value) : Prop := v = .pointer none ∨ ∃ p, v = ptr p ∧ Blk w p [.slice none 0 0, .map none] 54
theorem NoTab.kp {w w' : World} {v : Value} (h : NoTab w v) (hk : Kp [] w w') : NoTab w' v := by
  rcases h with h | ⟨p, h, hb⟩
  · exact .inl h
  · exact .inr ⟨p, h, hk.blk (by simp) hb⟩
theorem NoTab.ptr {v : Value} (h : NoTab w v) : ∃ p, v = .pointer p := by
  rcases h with h | ⟨p, h, hb⟩
  · exact ⟨_, h⟩
  · exact ⟨_, h⟩
variable {v0 : Value}
theorem there_no (h : NoTab w v0) : Ret Tryd.prog 20 [v0] w (fun v w' => v = .bool false ∧ w' = w) := by
  rcases h with rfl | ⟨p, rfl, hb⟩
  · exact there_nil
  · refine enter Tryd.call20 Tryd.func20 rfl rfl rfl rfl ?_
    (repeat first|refine zA ?_|refine zg ?_|refine zo rfl rfl trivial ?_|refine zn ?_|refine zT rfl rfl rfl ?_)
    refine o_load rfl hb rfl rfl rfl rfl rfl ?_
    (repeat first|refine zo rfl rfl trivial ?_|refine zn ?_|refine zr ?_)
    exact ⟨_, rfl, rfl, rfl⟩
theorem find_no (h : NoTab w v0) (k : Str) : Ret Tryd.prog 8 [v0, S k] w (fun v w' => v = .tuple #[I 0, .bool false] ∧ w' = w) := by
  obtain ⟨p, rfl⟩ := h.ptr
  refine enter Tryd.call8 Tryd.func8 rfl rfl rfl rfl ?_
  (repeat first|refine zA ?_|refine zB ?_|refine zg ?_|refine zo rfl rfl trivial ?_|refine zn ?_)
  refine o_call (there_no h) rfl rfl rfl ?_
  rintro v w' ⟨rfl, rfl⟩
  (repeat first|refine zA ?_|refine zg ?_|refine zo rfl rfl trivial ?_|refine zn ?_|refine zr ?_|refine zt rfl ?_)
  exact ⟨_, rfl, rfl, rfl⟩
theorem add_no (h : NoTab w v0) (k : Str) : Ret Tryd.prog 9 [v0, S k] w (fun v w' => v = .tuple #[I 0, I 1] ∧ w' = w) := by
  obtain ⟨p, rfl⟩ := h.ptr
  refine enter Tryd.call9 Tryd.func9 rfl rfl rfl rfl ?_
  (repeat first|refine zA ?_|refine zB ?_|refine zg ?_|refine zo rfl rfl trivial ?_|refine zn ?_)
  refine o_call (there_no h) rfl rfl rfl ?_
  rintro v w' ⟨rfl, rfl⟩
  (repeat first|refine zA ?_|refine zg ?_|refine zo rfl rfl trivial ?_|refine zn ?_|refine zr ?_|refine zt rfl ?_)
  exact ⟨_, rfl, rfl, rfl⟩
theorem nname_no (h : NoTab w v0) (n : Int) : Ret Tryd.prog 14 [v0, I n] w (fun v w' => v = .tuple #[S [], .bool false] ∧ w' = w) := by
  obtain ⟨p, rfl⟩ := h.ptr
  refine enter Tryd.call14 Tryd.func14 rfl rfl rfl rfl ?_
  (repeat first|refine zA ?_|refine zB ?_|refine zg ?_|refine zo rfl rfl trivial ?_|refine zn ?_)
  refine o_call (there_no h) rfl rfl rfl ?_
  rintro v w' ⟨rfl, rfl⟩
  (repeat first|refine zA ?_|refine zg ?_|refine zo rfl rfl trivial ?_|refine zn ?_|refine zr ?_|refine zT rfl rfl rfl ?_|refine zt rfl ?_)
  exact ⟨_, rfl, rfl, rfl⟩
theorem nlen_no (h : NoTab w v0) : Ret Tryd.prog 13 [v0] w (fun v w' => v = I 0 ∧ w' = w) := by
  obtain ⟨p, rfl⟩ := h.ptr
  refine enter Tryd.call13 Tryd.func13 rfl rfl rfl rfl ?_
  (repeat first|refine zA ?_|refine zB ?_|refine zg ?_|refine zo rfl rfl trivial ?_|refine zn ?_)
  refine o_call (there_no h) rfl rfl rfl ?_
  rintro v w' ⟨rfl, rfl⟩
  (repeat first|refine zA ?_|refine zg ?_|refine zo rfl rfl trivial ?_|refine zn ?_|refine zr ?_|refine zt rfl ?_)
  exact ⟨_, rfl, rfl, rfl⟩
theorem fresh_no (h : NoTab w v0) (base : Str) : Ret Tryd.prog 12 [v0, S base] w (fun v w' => v = .tuple #[S [], I 1] ∧ w' = w) := by
  obtain ⟨p, rfl⟩ := h.ptr
  refine enter Tryd.call12 Tryd.func12 rfl rfl rfl rfl ?_
  (repeat first|refine zA ?_|refine zB ?_|refine zg ?_|refine zo rfl rfl trivial ?_|refine zn ?_)
  refine o_call (there_no h) rfl rfl rfl ?_
  rintro v w' ⟨rfl, rfl⟩
  (repeat first|refine zA ?_|refine zg ?_|refine zo rfl rfl trivial ?_|refine zn ?_|refine zr ?_|refine zt rfl ?_)
  exact ⟨_, rfl, rfl, rfl⟩
theorem copy_no (h : NoTab w v0) : Ret Tryd.prog 51 [v0] w (fun v w' => v = .pointer none ∧ w' = w) := by
  obtain ⟨p, rfl⟩ := h.ptr
  refine enter Tryd.call51 Tryd.func51 rfl rfl rfl rfl ?_
  (repeat first|refine zA ?_|refine zB ?_|refine zg ?_|refine zo rfl rfl trivial ?_|refine zn ?_)
  refine o_call (there_no h) rfl rfl rfl ?_
  rintro v w' ⟨rfl, rfl⟩
  (repeat first|refine zA ?_|refine zg ?_|refine zo rfl rfl trivial ?_|refine zn ?_|refine zr ?_|refine zt rfl ?_)
  exact ⟨_, rfl, rfl, rfl⟩
theorem namesAll_no (h : NoTab w v0) : Ret Tryd.prog 22 [v0] w (fun v w' => ∃ Fp, NmSeq w' v Fp [] ∧ Kp [] w w' ∧ ∀ b, b ∈ Fp → w.heap.size ≤ b) := by
  obtain ⟨p, rfl⟩ := h.ptr
  refine enter Tryd.call22 Tryd.func22 rfl rfl rfl rfl ?_
  (repeat first|refine zA ?_|refine zg ?_|refine zo rfl rfl trivial ?_|refine zn ?_)
  refine o_alloc rfl rfl rfl rfl ?_
  intro bx w2 hbx hu2
  have k2 : Kp [] w w2 := hu2.kp [] (.inr (by omega))
  (repeat first|refine zA ?_|refine zB ?_|refine zg ?_|refine zo rfl rfl trivial ?_|refine zn ?_)
  refine o_call (there_no (h.kp k2)) rfl rfl rfl ?_
  rintro v w' ⟨rfl, rfl⟩
  (repeat first|refine zA ?_|refine zg ?_|refine zo rfl rfl trivial ?_|refine zn ?_|refine zr ?_|refine zk ?_|refine zf rfl ?_)
  refine ⟨_, rfl, bx :: blkOf none, ⟨_, _, rfl, namesAll_iter hu2.blk (ownS_nil _ _ _) (by simp)⟩, k2, ?_⟩
  intro b hb
  rcases List.mem_cons.1 hb with rfl | hb
  · omega
  · simp [blkOf] at hb
/-! ### the document's table -/
structure RTab (w : World) (q : Nat) (l : List Str) (ad : Option Addr) (cap : Nat) : Prop where
  hdr : Blk w q [.slice ad l.length cap] 71
  own : OwnS w 9 1 ad l.length cap (l.map S)
  few : l.length ≤ 131072
abbrev rfp (q : Nat) (ad : Option Addr) : List Nat := q :: blkOf ad
variable {q : Nat} {l : List Str} {ad : Option Addr} {cap : Nat}
theorem RTab.q_ad (h : RTab w q l ad cap) : q ∉ blkOf ad := by
  intro hb
  have h1 := h.hdr; have h2 := h.own.2
  cases ad with
  | none => simp [blkOf] at hb
  | some ad =>
    simp [blkOf] at hb; subst hb
    obtain ⟨_, _, _, _, junk, h5, _⟩ := h2
    unfold Blk at h1 h5; rw [h1] at h5; simp at h5
theorem RTab.lt (h : RTab w q l ad cap) : ∀ b, b ∈ rfp q ad → b < w.heap.size := fun b hb => by
  rcases List.mem_cons.1 hb with rfl | hb
  · exact h.hdr.lt
  · exact h.own.lt b hb
theorem RTab.kp {w' : World} (h : RTab w q l ad cap) {Q : List Nat} (hk : Kp Q w w') (hd : ∀ b, b ∈ rfp q ad → b ∉ Q) : RTab w' q l ad cap :=
  ⟨hk.blk (hd q (by simp)) h.hdr, h.own.kp hk (fun b hb => hd b (by simp [hb])), h.few⟩
theorem rfind_ret (h : RTab w q l ad cap) (k : Str) : Ret Tryd.prog 27 [ptr q, S k] w (fun v w' => v = findV l k ∧ w' = w) := by
  have hfew := h.few
  unfold findV
  refine enter Tryd.call27 Tryd.func27 rfl rfl rfl rfl ?_
  (repeat first|refine zA ?_|refine zB ?_|refine zg ?_|refine zo rfl rfl trivial ?_|refine zn ?_|refine zb ?_|refine zk ?_|refine zf rfl ?_)
  refine r_loop (α := Nat) [0, 1, 6] (fun i => [ptr q, S k, I i]) (fun i W => W = w ∧ i ≤ l.length ∧ nidx l k = (nidx (l.drop i) k).map (· + i)) (fun i => l.length - i) 0 rfl ⟨rfl, by omega, by rw [List.drop_zero]; cases nidx l k <;> rfl⟩ ?_
  rintro i e W ⟨rfl, hi, hx⟩
  (repeat first|refine zA ?_|refine zB ?_|refine zg ?_|refine zo rfl rfl trivial ?_)
  refine o_load rfl h.hdr rfl rfl rfl rfl rfl ?_
  (repeat first|refine zo rfl rfl trivial ?_|refine zn ?_)
  refine r_if rfl (fun hc => ?_) (fun hc => ?_)
  · have hc : i < l.length := by omega
    have hd : l.drop i = l[i] :: l.drop (i + 1) := List.drop_eq_getElem_cons hc
    obtain ⟨b, off, rfl, _, hcell⟩ := h.own.read.at_ (by simp; omega)
    (repeat first|refine zA ?_|refine zC ?_|refine zg ?_|refine zo rfl rfl trivial ?_|refine zb ?_|refine zk ?_)
    refine o_load rfl h.hdr rfl rfl rfl rfl rfl ?_
    (repeat refine zo rfl rfl (by first|exact trivial|(simp only[AllP];omega)) ?_)
    refine o_loadc rfl (hcell i (S l[i]) (by simp [hc])) rfl rfl rfl rfl ?_
    (repeat first|refine zo rfl rfl trivial ?_|refine zn ?_)
    have hnc : nidx (l[i] :: l.drop (i + 1)) k = if k = l[i] then some 0 else (nidx (l.drop (i + 1)) k).map (· + 1) := rfl
    rw [hd, hnc] at hx
    refine r_if rfl (fun he => ?_) (fun he => ?_)
    · rw [if_pos he.symm] at hx
      have hx : nidx l k = some i := by rw [hx]; simp
      (repeat first|refine zA ?_|refine zg ?_|refine zo rfl rfl trivial ?_|refine zn ?_|refine zr ?_)
      exact ⟨_, rfl, by rw [hx]; rfl, rfl⟩
    · rw [if_neg (fun e => he e.symm)] at hx
      (repeat first|refine zg ?_|refine zo rfl rfl (by first|exact trivial|(simp only[AllP];omega)) ?_|refine zn ?_|refine zk ?_)
      refine ⟨i + 1, rfl, ⟨rfl, by omega, ?_⟩, by omega⟩
      rw [hx]
      cases nidx (l.drop (i + 1)) k with
      | none => rfl
      | some y => simp; omega
  · have hi : i = l.length := by omega
    subst hi
    rw [List.drop_length] at hx
    have hx : nidx l k = none := by rw [hx]; rfl
    (repeat first|refine zA ?_|refine zg ?_|refine zo rfl rfl trivial ?_|refine zn ?_|refine ze rfl ?_|refine zr ?_)
    exact ⟨_, rfl, by rw [hx]; rfl, rfl⟩
theorem rfind_nil (k : Str) : Ret Tryd.prog 27 [.pointer none, S k] w (fun v w' => v = .tuple #[I 0, .bool false] ∧ w' = w) := by
  refine enter Tryd.call27 Tryd.func27 rfl rfl rfl rfl ?_
  (repeat first|refine zA ?_|refine zB ?_|refine zg ?_|refine zo rfl rfl trivial ?_|refine zn ?_|refine zr ?_|refine zt rfl ?_)
  exact ⟨_, rfl, rfl, rfl⟩
/-- what an addition leaves -/
def RAddPost (w w' : World) (q : Nat) (ad : Option Addr) (l' : List Str) : Prop :=
  ∃ ad' cap', RTab w' q l' ad' cap' ∧ Kp (rfp q ad) w w' ∧ ∀ b, b ∈ rfp q ad' → b ∈ rfp q ad ∨ w.heap.size ≤ b
theorem radd_ret (h : RTab w q l ad cap) (s : Str) (hs : s.length ≤ 9223372036854775807) :
    Ret Tryd.prog 26 [ptr q, S s] w (fun v w' => v = .tuple #[I (addN l s), I (addE l s)] ∧ RAddPost w w' q ad (addL l s)) := by
  have hfew := h.few
  have stays : RAddPost w w q ad l := ⟨ad, cap, h, Kp.refl _ _, fun b hb => .inl hb⟩
  refine enter Tryd.call26 Tryd.func26 rfl rfl rfl rfl ?_
  (repeat first|refine zA ?_|refine zB ?_|refine zg ?_|refine zo rfl rfl trivial ?_|refine zn ?_|refine zk ?_|refine zf rfl ?_)
  refine o_call (rname_ret s hs _) rfl rfl rfl ?_
  rintro v w0 ⟨rfl, rfl⟩
  cases hn : nameB s with
  | false =>
    (repeat first|refine zA ?_|refine zg ?_|refine zo rfl rfl trivial ?_|refine zn ?_|refine zr ?_|refine zt rfl ?_)
    refine ⟨_, rfl, ?_, ?_⟩
    · simp [addN, addE, hn]
    · simpa [addL, hn] using stays
  | true =>
    (repeat first|refine zA ?_|refine zg ?_|refine zo rfl rfl trivial ?_|refine zn ?_|refine zk ?_|refine zf rfl ?_)
    refine o_call (rfind_ret h s) rfl rfl rfl ?_
    rintro v w0 ⟨rfl, rfl⟩
    unfold findV
    cases hx : nidx l s with
    | some x =>
      (repeat first|refine zA ?_|refine zB ?_|refine zg ?_|refine zo rfl rfl trivial ?_|refine zn ?_|refine zr ?_|refine zt rfl ?_)
      refine ⟨_, rfl, ?_, ?_⟩
      · simp [addN, addE, hn, hx]
      · simpa [addL, hn, hx] using stays
    | none =>
      (repeat first|refine zA ?_|refine zB ?_|refine zg ?_|refine zo rfl rfl trivial ?_|refine zn ?_|refine zk ?_|refine zf rfl ?_)
      refine o_load rfl h.hdr rfl rfl rfl rfl rfl ?_
      (repeat first|refine zo rfl rfl trivial ?_|refine zn ?_)
      refine r_if rfl (fun hc => ?_) (fun hc => ?_)
      · have hc : ¬ l.length < 131072 := by omega
        (repeat first|refine zA ?_|refine zg ?_|refine zo rfl rfl trivial ?_|refine zn ?_|refine zr ?_)
        refine ⟨_, rfl, ?_, ?_⟩
        · simp [addN, addE, hn, hx, hc]
        · simpa [addL, hn, hx, hc] using stays
      · have hc : l.length < 131072 := by omega
        (repeat first|refine zA ?_|refine zg ?_|refine zo rfl rfl trivial ?_|refine zk ?_)
        refine o_load rfl h.hdr rfl rfl rfl rfl rfl ?_
        (repeat refine zo rfl rfl trivial ?_)
        refine o_buildSlice [S s] rfl (by simp [Value.oneCell']) rfl (by decide) (by decide) rfl rfl rfl rfl rfl ?_
        intro b1 w1 hb1 hu1
        have kp1 : Kp (rfp q ad) w0 w1 := hu1.kp _ (.inr (by omega))
        have hT1 := h.kp (hu1.kp [] (.inr (by omega))) (by simp)
        have hs1 := hu1.size
        refine o_append1 rfl rfl hT1.own hu1.blk rfl rfl rfl rfl (by simp only [maxLen]; omega) (by omega) rfl rfl ?_
        intro ad' cap' w2 ho2 kp2 hnew
        have hH2 := kp2.blk hT1.q_ad hT1.hdr
        have kp2' : Kp (rfp q ad) w1 w2 := kp2.mono (fun b hb => by simp [hb])
        (repeat refine zo rfl rfl trivial ?_)
        refine o_store rfl hH2 (by simp) rfl rfl rfl rfl rfl rfl ?_
        intro w3 hu3
        have hqlt := h.hdr.lt
        have hq' : q ∉ blkOf ad' := fun hb => by
          rcases hnew q hb with h1 | h1
          · exact hT1.q_ad h1
          · omega
        have ho3 := ho2.upd hu3 hq'
        have hH3 := hu3.blk
        have kp3 : Kp (rfp q ad) w2 w3 := hu3.kp _ (.inl (by simp))
        (repeat first|refine zA ?_|refine zg ?_|refine zo rfl rfl trivial ?_|refine zn ?_)
        refine o_load rfl hH3 rfl rfl rfl rfl rfl ?_
        (repeat first|refine zo rfl rfl (by first|exact trivial|(simp only[AllP];omega)) ?_|refine zn ?_|refine zr ?_)
        have hl : addL l s = l ++ [s] := by simp [addL, hn, hx, hc]
        refine ⟨_, rfl, by simp [addN, addE, hn, hx, hc], ?_⟩
        rw [hl]
        refine ⟨ad', cap', ⟨by simpa using hH3, by simpa using ho3, by simp; omega⟩, kp1.trans (kp2'.trans kp3), fun b hb => ?_⟩
        rcases List.mem_cons.1 hb with rfl | hb
        · exact .inl (by simp)
        · rcases hnew b hb with h1 | h1
          · exact .inl (by simp [h1])
          · right; omega
theorem radd_nil (s : Str) : Ret Tryd.prog 26 [.pointer none, S s] w (fun v w' => v = .tuple #[I 0, I 1] ∧ w' = w) := by
  refine enter Tryd.call26 Tryd.func26 rfl rfl rfl rfl ?_
  (repeat first|refine zA ?_|refine zB ?_|refine zg ?_|refine zo rfl rfl trivial ?_|refine zn ?_|refine zr ?_|refine zt rfl ?_)
  exact ⟨_, rfl, rfl, rfl⟩
theorem rtname_ret (h : RTab w q l ad cap) (n : Int) : Ret Tryd.prog 28 [ptr q, I n] w (fun v w' => v = nameV l n ∧ w' = w) := by
  have hn := h.few
  unfold nameV
  refine enter Tryd.call28 Tryd.func28 rfl rfl rfl rfl ?_
  (repeat first|refine zA ?_|refine zB ?_|refine zg ?_|refine zo rfl rfl trivial ?_|refine zn ?_|refine zU rfl rfl rfl ?_)
  refine o_split _ _ rfl rfl rfl (fun h1 => ?_) (fun h1 => ?_)
  · have h1 : n < 0 := of_decide_eq_true h1
    (repeat first|refine zA ?_|refine zg ?_|refine zo rfl rfl trivial ?_|refine zn ?_|refine zr ?_|refine zt rfl ?_)
    exact ⟨_, rfl, by rw [if_neg (by omega)], rfl⟩
  · have h1 : ¬ n < 0 := of_decide_eq_false h1
    (repeat refine zo rfl rfl trivial ?_)
    refine o_load rfl h.hdr rfl rfl rfl rfl rfl ?_
    (repeat first|refine zo rfl rfl trivial ?_|refine zn ?_)
    refine r_if rfl (fun hc => ?_) (fun hc => ?_)
    · have hc : (l.length : Int) ≤ n := hc
      (repeat first|refine zA ?_|refine zg ?_|refine zo rfl rfl trivial ?_|refine zn ?_|refine zr ?_)
      exact ⟨_, rfl, by rw [if_neg (by omega)], rfl⟩
    · have hc : ¬ (l.length : Int) ≤ n := hc
      obtain ⟨k, rfl⟩ : ∃ k : Nat, n = k := ⟨n.toNat, by omega⟩
      have hkl : k < l.length := by omega
      (repeat first|refine zA ?_|refine zg ?_|refine zo rfl rfl trivial ?_|refine zk ?_)
      refine o_load rfl h.hdr rfl rfl rfl rfl rfl ?_
      obtain ⟨b, off, rfl, _, hcell⟩ := h.own.read.at_ (by simp; omega)
      (repeat refine zo rfl rfl (by first|exact trivial|(simp only[AllP];omega)) ?_)
      refine o_loadc rfl (hcell k (S (l.getD k [])) (by rw [List.getElem?_map]; simp [hkl])) rfl rfl rfl rfl ?_
      (repeat first|refine zo rfl rfl trivial ?_|refine zn ?_|refine zr ?_)
      exact ⟨_, rfl, by rw [if_pos (by omega)]; rfl, rfl⟩
theorem rtname_nil (n : Int) : Ret Tryd.prog 28 [.pointer none, I n] w (fun v w' => v = .tuple #[S [], .bool false] ∧ w' = w) := by
  refine enter Tryd.call28 Tryd.func28 rfl rfl rfl rfl ?_
  (repeat first|refine zA ?_|refine zB ?_|refine zg ?_|refine zo rfl rfl trivial ?_|refine zn ?_|refine zr ?_|refine zT rfl rfl rfl ?_|refine zt rfl ?_)
  exact ⟨_, rfl, rfl, rfl⟩
theorem rnames_ret (h : RTab w q l ad cap) : Ret Tryd.prog 29 [ptr q] w (fun v w' => ∃ ad' cap', v = .slice ad' l.length cap' ∧ NewS w 9 w' ad' l.length cap' (l.map S)) := by
  have hn := h.few
  refine enter Tryd.call29 Tryd.func29 rfl rfl rfl rfl ?_
  (repeat first|refine zA ?_|refine zB ?_|refine zg ?_|refine zo rfl rfl trivial ?_|refine zn ?_|refine zk ?_|refine zf rfl ?_)
  refine o_buildSlice0 rfl rfl rfl rfl ?_
  intro b w1 hb hu1
  have k1 : Kp [] w w1 := hu1.kp [] (.inr (by omega))
  have hT1 := h.kp k1 (by simp)
  have ho1 : OwnS w1 9 1 (some ⟨b, 0, none⟩) 0 0 [] := ⟨rfl, rfl, rfl, Nat.le_refl _, by simp [maxLen], [], hu1.blk, rfl⟩
  (repeat refine zo rfl rfl trivial ?_)
  refine o_load rfl hT1.hdr rfl rfl rfl rfl rfl ?_
  by_cases h0 : l.length = 0
  · have hws : l = [] := List.eq_nil_of_length_eq_zero h0
    subst hws
    refine o_append0 (ad := some ⟨b, 0, none⟩) (k := 0) (cap := 0) (ay := ad) (cy := cap) rfl rfl (Nat.le_refl _) rfl rfl rfl rfl ?_
    (repeat first|refine zo rfl rfl trivial ?_|refine zn ?_|refine zr ?_)
    exact ⟨_, rfl, _, 0, rfl, ⟨ho1, k1, by simp [blkOf]; omega⟩⟩
  · obtain ⟨a, rfl⟩ : ∃ a, ad = some a := by
      cases ad with
      | none => exact absurd h.own.2.1 h0
      | some a => exact ⟨a, rfl⟩
    refine o_append (l.map S) rfl rfl ho1 (fun j v hv => hT1.own.read j v hv) rfl rfl rfl (by omega) (by simp) (by omega) (by simp [Value.oneCell']) (by simp only [maxLen]; omega) (by omega) rfl rfl ?_
    intro ad2 cap2 w2 ho2 k2 hnew
    (repeat first|refine zo rfl rfl trivial ?_|refine zn ?_|refine zr ?_)
    rw [Nat.zero_add] at ho2
    refine ⟨_, rfl, ad2, cap2, by rw [Nat.zero_add], ⟨ho2, k1.since k2 (by simp [blkOf]; omega), fun c hc => ?_⟩⟩
    rcases hnew c hc with h1 | h1
    · simp [blkOf] at h1; omega
    · have := hu1.size; omega
theorem rnames_nil : Ret Tryd.prog 29 [.pointer none] w (fun v w' => v = .slice none 0 0 ∧ w' = w) := by
  refine enter Tryd.call29 Tryd.func29 rfl rfl rfl rfl ?_
  (repeat first|refine zA ?_|refine zB ?_|refine zg ?_|refine zo rfl rfl trivial ?_|refine zn ?_|refine zr ?_|refine zt rfl ?_)
  exact ⟨_, rfl, rfl, rfl⟩
theorem rcopy_ret (h : RTab w q l ad cap) : Ret Tryd.prog 52 [ptr q] w (fun v w' => ∃ q' ad' cap', v = ptr q' ∧ RTab w' q' l ad' cap' ∧ Kp [] w w' ∧ ∀ b, b ∈ rfp q' ad' → w.heap.size ≤ b) := by
  refine enter Tryd.call52 Tryd.func52 rfl rfl rfl rfl ?_
  (repeat first|refine zA ?_|refine zB ?_|refine zg ?_|refine zo rfl rfl trivial ?_|refine zn ?_|refine zk ?_|refine zf rfl ?_)
  refine o_call (rnames_ret h) rfl rfl rfl ?_
  rintro v w1 ⟨ad1, cap1, rfl, hn1⟩
  refine o_build [.slice ad1 l.length cap1] rfl rfl rfl rfl rfl rfl rfl ?_
  refine o_box rfl rfl rfl ?_
  intro bp w2 hbp hu2
  have k2 : Kp [] w1 w2 := hu2.kp [] (.inr (by omega))
  (repeat first|refine zo rfl rfl trivial ?_|refine zn ?_|refine zr ?_)
  refine ⟨_, rfl, bp, ad1, cap1, rfl, ⟨hu2.blk, hn1.own.kp k2 (by simp), h.few⟩, hn1.kp.trans k2, fun b hb => ?_⟩
  rcases List.mem_cons.1 hb with rfl | hb
  · have := hn1.kp.size; omega
  · exact hn1.new b hb
theorem rcopy_nil : Ret Tryd.prog 52 [.pointer none] w (fun v w' => v = .pointer none ∧ w' = w) := by
  refine enter Tryd.call52 Tryd.func52 rfl rfl rfl rfl ?_
  (repeat first|refine zA ?_|refine zB ?_|refine zg ?_|refine zo rfl rfl trivial ?_|refine zn ?_|refine zr ?_|refine zt rfl ?_)
  exact ⟨_, rfl, rfl, rfl⟩
def RNewPost (w w' : World) (v : Value) : Option (List Str) × Int → Prop
  | (some l, x) => ∃ q ad cap, v = .tuple #[ptr q, I x] ∧ RTab w' q l ad cap ∧ Kp [] w w' ∧ ∀ b, b ∈ rfp q ad → w.heap.size ≤ b
  | (none, x) => v = .tuple #[.pointer none, I x] ∧ Kp [] w w'
theorem rnew_ret {ad : Option Addr} {cap : Nat} (names : List Str) (hr : ReadS w ad (names.map S)) (hs : ∀ s ∈ names, s.length ≤ 9223372036854775807) (hn : names.length ≤ 9223372036854775807) :
    Ret Tryd.prog 15 [.slice ad names.length cap] w (fun v w' => RNewPost w w' v (newGo [] names)) := by
  refine enter Tryd.call15 Tryd.func15 rfl rfl rfl rfl ?_
  (repeat first|refine zA ?_|refine zg ?_|refine zo rfl rfl trivial ?_|refine zn ?_)
  refine o_build [.slice none 0 0] rfl rfl rfl rfl rfl rfl rfl ?_
  refine o_box rfl rfl rfl ?_
  intro bp w2 hbp hu2
  have kp2 : Kp [] w w2 := hu2.kp [] (.inr (by omega))
  have hT2 : RTab w2 bp [] none 0 := ⟨hu2.blk, ownS_nil _ _ _, by simp⟩
  (repeat first|refine zA ?_|refine zB ?_|refine zg ?_|refine zo rfl rfl trivial ?_|refine zn ?_|refine zb ?_)
  refine r_loop (α := Nat × List Str) [0, 4, 5] (fun g => [.slice ad names.length cap, ptr bp, I g.1])
    (fun g w' => g.1 ≤ names.length ∧ Kp [] w w' ∧ newGo [] names = newGo g.2 (names.drop g.1) ∧ ∃ ad cap, RTab w' bp g.2 ad cap ∧ ∀ b, b ∈ rfp bp ad → w.heap.size ≤ b) (fun g => names.length - g.1) (0, []) rfl
    ⟨by omega, kp2, rfl, none, 0, hT2, by simp [blkOf]; omega⟩ ?_
  rintro ⟨k, acc⟩ e w3 ⟨hk, kp3, hgo, ad3, cap3, hT3, hfp⟩
  dsimp only at hk hgo hT3
  (repeat first|refine zA ?_|refine zB ?_|refine zg ?_|refine zo rfl rfl trivial ?_|refine zn ?_)
  refine r_if rfl (fun hlt => ?_) (fun hge => ?_)
  · have hlt : k < names.length := by omega
    have hgo' : newGo acc (names.drop k) = if addE acc names[k] = 0 then newGo (addL acc names[k]) (names.drop (k + 1)) else (none, addE acc names[k]) := by
      rw [List.drop_eq_getElem_cons hlt]; rfl
    obtain ⟨b, off, rfl, _, hcell⟩ := (hr.kp kp3 (by simp)).at_ (by simp; omega)
    (repeat first|refine zA ?_|refine zC ?_|refine zg ?_|refine zo rfl rfl (by first|exact trivial|(simp only[AllP];omega)) ?_|refine zb ?_|refine zk ?_)
    refine o_loadc rfl (hcell k (S names[k]) (by simp [hlt])) rfl rfl rfl rfl ?_
    refine o_call (radd_ret hT3 names[k] (hs _ (List.getElem_mem hlt))) rfl rfl rfl ?_
    rintro v w4 ⟨rfl, ad4, cap4, hT4, kp4, hfp4⟩
    have kp5 : Kp [] w w4 := kp3.since kp4 hfp
    (repeat first|refine zA ?_|refine zg ?_|refine zo rfl rfl trivial ?_|refine zn ?_)
    refine r_ifn rfl (fun hne => ?_) (fun heq => ?_)
    · (repeat first|refine zA ?_|refine zg ?_|refine zo rfl rfl trivial ?_|refine zn ?_|refine zr ?_)
      refine ⟨_, rfl, ?_⟩
      rw [hgo, hgo', if_neg hne]
      exact ⟨rfl, kp5⟩
    · (repeat first|refine zg ?_|refine zo rfl rfl (by first|exact trivial|(simp only[AllP];omega)) ?_|refine zn ?_|refine zk ?_)
      refine ⟨(k + 1, addL acc names[k]), rfl, ⟨hlt, kp5, ?_, ad4, cap4, hT4, ?_⟩, by show _ - (k + 1) < _ - k; omega⟩
      · rw [hgo, hgo', if_pos heq]
      · intro b hb
        rcases hfp4 b hb with h1 | h1
        · exact hfp b h1
        · exact Nat.le_trans kp3.size h1
  · (repeat first|refine zA ?_|refine zg ?_|refine zo rfl rfl trivial ?_|refine zn ?_|refine ze rfl ?_|refine zr ?_)
    refine ⟨_, rfl, ?_⟩
    have hk' : k = names.length := by omega
    subst hk'
    rw [hgo, List.drop_length]
    exact ⟨bp, ad3, cap3, rfl, hT3, kp3, hfp⟩
end Go.Vc
