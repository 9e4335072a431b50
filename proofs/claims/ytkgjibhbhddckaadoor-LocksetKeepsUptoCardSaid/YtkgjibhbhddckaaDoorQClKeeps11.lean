/- bits: All, Collect, List; gone. -/
import Derived.Test.YtkgjibhbhddckaaDoorQClKeeps10
namespace Go.Vc
open Go Go.Proofs
set_option maxRecDepth 10000
variable {w : World}

def encI (k : Nat) : Value := I (k : Int)
theorem Keeps.ne {D l : Nat} {r : Loop} {Fp : List Nat} {w W : World} (h : Keeps D l r Fp w W) {b : Nat} {L : List Value} {T : TypeId} (hb : Blk W b L T) : b ≠ l ∧ b ≠ D := by
  constructor
  · rintro rfl; have := h.loop; unfold Blk at hb; rw [hb] at this; cases this
  · rintro rfl; have := h.shut; unfold Blk at hb; rw [hb] at this; cases this
theorem Keeps.ne_own {D l : Nat} {r : Loop} {Fp : List Nat} {w W : World} (h : Keeps D l r Fp w W) {T : TypeId} {size : Nat} {ad : Option Addr} {n cap : Nat} {xs : List Value} (ho : OwnS W T size ad n cap xs) : l ∉ blkOf ad ∧ D ∉ blkOf ad := by
  cases ad with
  | none => simp [blkOf]
  | some ad =>
    obtain ⟨_, _, _, _, junk, h5, _⟩ := ho.2
    have := h.ne h5
    simp only [blkOf, List.mem_singleton]
    exact ⟨Ne.symm this.1, Ne.symm this.2⟩

/-- a sequence of numbers: a function value that tells them -/
structure SeqIs (w : World) (v : Value) (Fp : List Nat) (xs : List Nat) : Prop where
  is : ∃ f lb, v = .func (.func f) #[] ⟨lb⟩ ∧ Iter Tryd.prog f lb Fp encN xs w
theorem SeqIs.kp {w w' : World} {v : Value} {Fp xs : List Nat} (h : SeqIs w v Fp xs) {S : List Nat} (hk : Kp S w w') (hd : ∀ b, b ∈ Fp → b ∉ S) : SeqIs w' v Fp xs := by
  obtain ⟨f, lb, h1, h2⟩ := h.is
  exact ⟨f, lb, h1, h2.kp hk.size (fun b hb => hk.at_ b (h2.1 b hb) (hd b hb))⟩
theorem SeqIs.lt {v : Value} {Fp xs : List Nat} (h : SeqIs w v Fp xs) : ∀ b, b ∈ Fp → b < w.heap.size := by
  obtain ⟨f, lb, h1, h2⟩ := h.is
  exact h2.1

theorem All_ret (hT : TabW w) {p : Nat} {ws : List Nat} {ad : Option Addr} {cap : Nat} (h : SetAt w p ws ad cap) :
    Ret Tryd.prog 71 [ptr p] w (fun v w' => ∃ Fp, SeqIs w' v (0 :: Fp) (elems ws) ∧ Kp [] w w' ∧ ∀ b, b ∈ Fp → w.heap.size ≤ b) := by
  have hlen := h.len
  refine enter Tryd.call71 Tryd.func71 rfl rfl rfl rfl ?_
  (repeat first|refine zA ?_|refine zg ?_|refine zo rfl rfl trivial ?_|refine zn ?_)
  refine o_call (Words_ret h) rfl rfl rfl ?_
  rintro v w1 ⟨ad1, cap1, rfl, hn1⟩
  refine o_alloc rfl rfl rfl rfl ?_
  intro bx w2 hbx hu2
  have ho2 := hn1.own.kp (hu2.kp [] (.inr (by omega))) (by simp)
  refine o_store rfl hu2.blk (by decide) rfl rfl rfl rfl rfl rfl ?_
  intro w3 hu3
  have hne : bx ∉ blkOf ad1 := fun hb => by have := hn1.own.lt bx hb; omega
  have ho3 := ho2.upd hu3 hne
  have k3 : Kp [] w w3 := (hn1.kp.trans (hu2.kp [] (.inr (by omega)))).since (hu3.kp [bx] (.inl (by simp))) (by have := hn1.kp.size; simp; omega)
  have hT3 := hT.kp k3 (by simp)
  (repeat first|refine zA ?_|refine zg ?_|refine zo rfl rfl trivial ?_|refine zn ?_|refine zr ?_)
  refine ⟨_, rfl, bx :: blkOf ad1, ⟨_, _, rfl, all_iter hT3 hu3.blk ho3 h.ok hlen⟩, k3, ?_⟩
  intro b hb
  rcases List.mem_cons.1 hb with rfl | hb
  · have := hn1.kp.size; omega
  · exact hn1.new b hb
theorem All_nil (hT : TabW w) : Ret Tryd.prog 71 [.pointer none] w (fun v w' => ∃ Fp, SeqIs w' v (0 :: Fp) [] ∧ Kp [] w w' ∧ ∀ b, b ∈ Fp → w.heap.size ≤ b) := by
  refine enter Tryd.call71 Tryd.func71 rfl rfl rfl rfl ?_
  (repeat first|refine zA ?_|refine zg ?_|refine zo rfl rfl trivial ?_|refine zn ?_)
  refine o_call Words_nil rfl rfl rfl ?_
  rintro v w1 ⟨rfl, rfl⟩
  refine o_alloc rfl rfl rfl rfl ?_
  intro bx w2 hbx hu2
  refine o_store rfl hu2.blk (by decide) rfl rfl rfl rfl rfl rfl ?_
  intro w3 hu3
  have k3 : Kp [] w1 w3 := (hu2.kp [] (.inr (by omega))).since (hu3.kp [bx] (.inl (by simp))) (by simp; omega)
  have hT3 := hT.kp k3 (by simp)
  (repeat first|refine zA ?_|refine zg ?_|refine zo rfl rfl trivial ?_|refine zn ?_|refine zr ?_)
  refine ⟨_, rfl, [bx], ⟨_, _, rfl, all_iter (ws := []) (ad := none) (cap := 0) hT3 hu3.blk (ownS_nil _ _ _) (by intro x hx; simp at hx) (by simp)⟩, k3, ?_⟩
  intro b hb
  simp at hb; omega

theorem AppendSeq_ret {v : Value} {Fp xs : List Nat} (h : SeqIs w v Fp xs) (hx : xs.length ≤ 16777216) :
    Ret Tryd.prog 94 [.slice none 0 0, v] w (fun v w' => ∃ ad cap, v = .slice ad xs.length cap ∧ NewS w 3 w' ad xs.length cap (xs.map encI)) := by
  obtain ⟨f, lb, rfl, hI⟩ := h.is
  refine enterM Tryd.call94 Tryd.func94 rfl rfl rfl rfl ?_
  refine m_seq (m_of ?_)
  (repeat refine zg ?_)
  refine o_box rfl rfl rfl ?_
  intro bx w1 hbx hu1
  have k1 : Kp [] w w1 := hu1.kp [] (.inr (by omega))
  have hI1 := hI.kp k1.size (fun b hb => k1.at_ b (hI.1 b hb) (by simp))
  (repeat first|refine zo rfl rfl trivial ?_|refine zn ?_)
  refine m_seq (m_seq (m_of ?_))
  (repeat first|refine zg ?_|refine zo rfl rfl trivial ?_|refine zn ?_)
  refine m_block ?_
  refine m_range hI1 [] (fun pre W => ∃ ad cap, Blk W bx [.slice ad pre.length cap] 22 ∧ OwnS W 3 1 ad pre.length cap (pre.map encI) ∧ Kp [] w W ∧ bx ∉ blkOf ad ∧ ∀ b, b ∈ blkOf ad → w.heap.size ≤ b) (fun _ _ _ => False) rfl rfl (fun _ => rfl) ?_ (fun _ _ _ _ h _ => h) ?_ ?_ ?_ ?_
  · rintro pre W1 W2 ⟨ad, cap, h1, h2, h3, h4, h5⟩ hnc
    exact ⟨ad, cap, hnc.blk h1, hnc.own h2, hnc.kp h3 k1.size, h4, h5⟩
  · exact ⟨none, 0, hu1.blk, ownS_nil _ _ _, k1, by simp [blkOf], by simp [blkOf]⟩
  · intro D l r pre x post W hx' hD hl
    (repeat first|refine zg ?_|refine zo rfl rfl trivial ?_|refine zn ?_)
    refine ⟨rfl, ?_⟩
    rintro W2 ⟨ad, cap, h1, h2, h3, h4, h5⟩ hkeep
    have hpl : pre.length + 1 ≤ xs.length := by rw [hx']; simp
    (repeat first|refine zg ?_|refine zb ?_)
    refine o_load rfl h1 rfl rfl rfl rfl rfl ?_
    (repeat refine zo rfl rfl trivial ?_)
    refine o_buildSlice [I (x : Int)] rfl (by simp [Value.oneCell']) rfl (by decide) (by decide) rfl rfl rfl rfl rfl ?_
    intro b3 W3 hb3 hu3
    have kk3 : Kp [] W2 W3 := hu3.kp [] (.inr (by omega))
    refine o_append1 rfl rfl (h2.kp kk3 (by simp)) hu3.blk rfl rfl rfl rfl (by simp only [maxLen]; omega) (by omega) rfl rfl ?_
    intro ad4 cap4 W4 ho4 kk4 hnew4
    have hB4 : Blk W4 bx [.slice ad pre.length cap] 22 := kk4.blk h4 (kk3.blk (by simp) h1)
    refine o_store rfl hB4 (by simp) rfl rfl rfl rfl rfl rfl ?_
    intro W5 hu5
    have hbx4 : bx ∉ blkOf ad4 := fun hb => by
      rcases hnew4 bx hb with h | h
      · exact h4 h
      · have := h1.lt; have := hu3.size; omega
    have kall : Kp (bx :: blkOf ad) W2 W5 := ((kk3.mono (S' := bx :: blkOf ad) (by simp)).after kk4 (fun b hb => .inl (by simp [hb]))).after (hu5.kp [bx] (.inl (by simp))) (fun b hb => .inl (by simp at hb; simp [hb]))
    (repeat refine zn ?_)
    have hlen4 : pre.length + 1 = (pre ++ [x]).length := by simp
    refine ⟨⟨ad4, cap4, ?_, ?_, ?_, hbx4, ?_⟩, ?_⟩
    · rw [← hlen4]; exact hu5.blk
    · rw [← hlen4, List.map_append]; exact ho4.upd hu5 hbx4
    · exact h3.since kall (fun b hb => by rcases List.mem_cons.1 hb with rfl | hb; omega; exact h5 b hb)
    · intro b hb
      rcases hnew4 b hb with h | h
      · exact h5 b h
      · have := h3.size; have := hu3.size; omega
    · have hne := hkeep.ne_own h2
      have hne1 := hkeep.ne h1
      refine hkeep.kp (fun b hb => ?_) kall ?_ ?_ ?_
      · have := hI.1 b hb; have := h3.size; omega
      · simp only [List.mem_cons, not_or]; exact ⟨Ne.symm hne1.1, hne.1⟩
      · simp only [List.mem_cons, not_or]; exact ⟨Ne.symm hne1.2, hne.2⟩
      · intro b hb hm
        have := hI.1 b hb
        rcases List.mem_cons.1 hm with rfl | hm
        · omega
        · have := h5 b hm; omega
  · rintro D W hD ⟨ad, cap, h1, h2, h3, h4, h5⟩ hsh
    refine m_of ?_
    (repeat first|refine zA ?_|refine zg ?_)
    refine o_load rfl h1 rfl rfl rfl rfl rfl ?_
    (repeat first|refine zo rfl rfl trivial ?_|refine zn ?_|refine zr ?_)
    refine ⟨_, rfl, hsh, ?_⟩
    intro W' hu
    have hnc : Nc w1.heap.size W W' := hu.nc (by omega) (fun x hx => by rw [hsh] at hx; cases hx; rfl)
    exact ⟨ad, cap, rfl, hnc.own h2, hnc.kp h3 k1.size, h5⟩
  · intro D c pre post W _ _ _ hf _
    exact hf.elim

theorem Collect_ret {v : Value} {Fp xs : List Nat} (h : SeqIs w v Fp xs) (hx : xs.length ≤ 16777216) :
    Ret Tryd.prog 70 [v] w (fun v w' => ∃ ad cap, v = .slice ad xs.length cap ∧ NewS w 3 w' ad xs.length cap (xs.map encI)) := by
  have hap := AppendSeq_ret h hx
  obtain ⟨f, lb, rfl, hI⟩ := h.is
  refine enter Tryd.call70 Tryd.func70 rfl rfl rfl rfl ?_
  (repeat first|refine zA ?_|refine zg ?_|refine zo rfl rfl trivial ?_|refine zn ?_)
  refine o_call hap rfl rfl rfl ?_
  rintro v w1 ⟨ad, cap, rfl, hn⟩
  (repeat first|refine zo rfl rfl trivial ?_|refine zn ?_|refine zr ?_)
  exact ⟨_, rfl, ad, cap, rfl, hn⟩
theorem elems_len (ws : List Nat) : (elems ws).length ≤ 64 * ws.length := by
  unfold elems
  have := List.length_filter_le (bit ws) (List.range (64 * ws.length))
  simpa using this
theorem List_ret (hT : TabW w) {p : Nat} {ws : List Nat} {ad : Option Addr} {cap : Nat} (h : SetAt w p ws ad cap) :
    Ret Tryd.prog 39 [ptr p] w (fun v w' => ∃ ad' cap', v = .slice ad' (elems ws).length cap' ∧ NewS w 3 w' ad' (elems ws).length cap' ((elems ws).map encI)) := by
  have hlen := h.len
  have hel := elems_len ws
  refine enter Tryd.call39 Tryd.func39 rfl rfl rfl rfl ?_
  (repeat first|refine zA ?_|refine zg ?_|refine zo rfl rfl trivial ?_|refine zn ?_)
  refine o_call (All_ret hT h) rfl rfl rfl ?_
  rintro v w1 ⟨Fp, hs, k1, hnew⟩
  have hc := Collect_ret hs (by omega)
  obtain ⟨f, lb, rfl, hI⟩ := hs.is
  refine o_call hc rfl rfl rfl ?_
  rintro v w2 ⟨ad2, cap2, rfl, hn⟩
  (repeat first|refine zo rfl rfl trivial ?_|refine zn ?_|refine zr ?_)
  exact ⟨_, rfl, ad2, cap2, rfl, hn.own, k1.trans hn.kp, fun b hb => Nat.le_trans k1.size (hn.new b hb)⟩
theorem List_nil (hT : TabW w) :
    Ret Tryd.prog 39 [.pointer none] w (fun v w' => ∃ ad' cap', v = .slice ad' 0 cap' ∧ NewS w 3 w' ad' 0 cap' []) := by
  refine enter Tryd.call39 Tryd.func39 rfl rfl rfl rfl ?_
  (repeat first|refine zA ?_|refine zg ?_|refine zo rfl rfl trivial ?_|refine zn ?_)
  refine o_call (All_nil hT) rfl rfl rfl ?_
  rintro v w1 ⟨Fp, hs, k1, hnew⟩
  have hc := Collect_ret hs (by simp)
  obtain ⟨f, lb, rfl, hI⟩ := hs.is
  refine o_call hc rfl rfl rfl ?_
  rintro v w2 ⟨ad2, cap2, rfl, hn⟩
  (repeat first|refine zo rfl rfl trivial ?_|refine zn ?_|refine zr ?_)
  exact ⟨_, rfl, ad2, cap2, rfl, hn.own, k1.trans hn.kp, fun b hb => Nat.le_trans k1.size (hn.new b hb)⟩

/-! ### gone: the law's reading of an iterator -/
def goneL (xs : List Nat) (most : Int) : List Nat := if 0 ≤ most then xs.take most.toNat else xs
structure GoneI (w : World) (bm bx : Nat) (most : Int) (pre : List Nat) (W : World) (ad : Option Addr) (cap : Nat) : Prop where
  bm_ : Blk W bm [I most] 3
  bx_ : Blk W bx [.slice ad pre.length cap] 22
  own : OwnS W 3 1 ad pre.length cap (pre.map encI)
  kp : Kp [] w W
  ne : bx ∉ blkOf ad
  nm : bm ∉ bx :: blkOf ad
  new : ∀ b, b ∈ blkOf ad → w.heap.size ≤ b
  few : 0 ≤ most → (pre.length : Int) ≤ most
theorem GoneI.nc {bm bx : Nat} {most : Int} {pre : List Nat} {W W' : World} {ad : Option Addr} {cap B : Nat} (h : GoneI w bm bx most pre W ad cap) (hn : Nc B W W') (hB : w.heap.size ≤ B) : GoneI w bm bx most pre W' ad cap :=
  ⟨hn.blk h.bm_, hn.blk h.bx_, hn.own h.own, hn.kp h.kp hB, h.ne, h.nm, h.new, h.few⟩
end Go.Vc
