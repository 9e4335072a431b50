/- bits: Clone, Words, All, List; gone. -/
import Derived.Test.YtkgjibhbhddckaaDoorQClKPlays9
namespace Go.Vc
open Go Go.Proofs
set_option maxRecDepth 10000
variable {w : World}

/-- the clone of words -/
theorem Clone_ret {ad : Option Addr} {ws : List Nat} {cap : Nat} (h : RdW w ad ws) (hbig : ws.length * 8 ≤ 140737488355328) (hmax : ws.length ≤ maxLen) :
    Ret Tryd.prog 99 [.slice ad ws.length cap] w (fun v w' => ∃ ad' cap', v = .slice ad' ws.length cap' ∧ NewS w 151 w' ad' ws.length cap' (ws.map U) ∧ (ad = none → ad' = none ∧ cap' = 0)) := by
  refine enter Tryd.call99 Tryd.func99 rfl rfl rfl rfl ?_
  (repeat first|refine zA ?_|refine zB ?_|refine zg ?_|refine zo rfl rfl trivial ?_|refine zn ?_)
  cases ad with
  | none =>
    have hws : ws = [] := by have := h.read; simpa [ReadS] using this
    subst hws
    (repeat first|refine zA ?_|refine zg ?_|refine zo rfl rfl trivial ?_|refine zn ?_|refine zr ?_|refine zt rfl ?_)
    exact ⟨_, rfl, none, 0, rfl, ⟨ownS_nil _ _ _, Kp.refl _ _, by simp [blkOf]⟩, fun _ => ⟨rfl, rfl⟩⟩
  | some a =>
    (repeat first|refine zA ?_|refine zg ?_|refine zo rfl rfl trivial ?_|refine zn ?_|refine zk ?_|refine zf rfl ?_)
    refine o_buildSlice0 rfl rfl rfl rfl ?_
    intro b w1 hb hu1
    have k1 : Kp [] w w1 := hu1.kp [] (.inr (by omega))
    have ho1 : OwnS w1 151 1 (some ⟨b, 0, none⟩) 0 0 [] := ⟨rfl, rfl, rfl, Nat.le_refl _, by simp [maxLen], [], hu1.blk, rfl⟩
    (repeat refine zo rfl rfl trivial ?_)
    by_cases h0 : ws.length = 0
    · have hws : ws = [] := List.eq_nil_of_length_eq_zero h0
      subst hws
      refine o_append0 (ad := some ⟨b, 0, none⟩) (k := 0) (cap := 0) (ay := some a) (cy := cap) rfl rfl (Nat.le_refl _) rfl rfl rfl rfl ?_
      (repeat first|refine zo rfl rfl trivial ?_|refine zn ?_|refine zr ?_)
      exact ⟨_, rfl, _, 0, rfl, ⟨ho1, k1, by simp [blkOf]; omega⟩, fun h => by cases h⟩
    · refine o_append (ws.map U) rfl rfl ho1 ?_ rfl rfl rfl (by omega) (by simp) (by omega) (by simp [Value.oneCell']) (by omega) (by simpa using hbig) rfl rfl ?_
      · intro j v hv
        exact (h.kp k1 (by simp)).read j v hv
      intro ad2 cap2 w2 ho2 k2 hnew
      (repeat first|refine zo rfl rfl trivial ?_|refine zn ?_|refine zr ?_)
      rw [Nat.zero_add] at ho2
      refine ⟨_, rfl, ad2, cap2, by rw [Nat.zero_add], ⟨ho2, k1.since k2 (by simp [blkOf]; omega), fun c hc => ?_⟩, fun h => by cases h⟩
      rcases hnew c hc with h1 | h1
      · simp [blkOf] at h1; omega
      · have := hu1.size; omega

theorem Words_ret {p : Nat} {ws : List Nat} {ad : Option Addr} {cap : Nat} (h : SetAt w p ws ad cap) :
    Ret Tryd.prog 81 [ptr p] w (fun v w' => ∃ ad' cap', v = .slice ad' ws.length cap' ∧ NewS w 151 w' ad' ws.length cap' (ws.map U)) := by
  have hlen := h.len
  refine enter Tryd.call81 Tryd.func81 rfl rfl rfl rfl ?_
  (repeat first|refine zA ?_|refine zB ?_|refine zg ?_|refine zo rfl rfl trivial ?_|refine zn ?_)
  refine o_call (there_ret h) rfl rfl rfl ?_
  rintro v w' ⟨rfl, rfl⟩
  (repeat first|refine zA ?_|refine zg ?_|refine zo rfl rfl trivial ?_|refine zn ?_|refine zk ?_|refine zf rfl ?_)
  try refine r_no rfl rfl ?_
  refine o_load rfl h.hdr rfl rfl rfl rfl rfl ?_
  refine o_call (Clone_ret h.rd (by omega) (by simp only [maxLen]; omega)) rfl rfl rfl ?_
  rintro v w2 ⟨ad2, cap2, rfl, hn, _⟩
  (repeat first|refine zo rfl rfl trivial ?_|refine zn ?_|refine zr ?_)
  exact ⟨_, rfl, ad2, cap2, rfl, hn⟩
theorem Words_nil : Ret Tryd.prog 81 [.pointer none] w (fun v w' => v = .slice none 0 0 ∧ w' = w) := by
  refine enter Tryd.call81 Tryd.func81 rfl rfl rfl rfl ?_
  (repeat first|refine zA ?_|refine zB ?_|refine zg ?_|refine zo rfl rfl trivial ?_|refine zn ?_)
  refine o_call there_nil rfl rfl rfl ?_
  rintro v w' ⟨rfl, rfl⟩
  (repeat first|refine zA ?_|refine zg ?_|refine zo rfl rfl trivial ?_|refine zn ?_|refine zr ?_|refine zt rfl ?_)
  exact ⟨_, rfl, rfl, rfl⟩

/-! ### All: the iterator -/
abbrev encN (k : Nat) : List Value := [I (k : Int)]
theorem elems_split {ws : List Nat} {pre post : List Nat} {k : Nat} (h : elems ws = pre ++ k :: post) : bit ws k = true ∧ (∀ j, j ∈ pre → j < k) ∧ ∀ j, bit ws j = true → j < k → j ∈ pre := by
  have hs : (elems ws).Pairwise (· < ·) := List.Pairwise.filter _ List.pairwise_lt_range
  have hm : ∀ j, j ∈ elems ws ↔ bit ws j = true := fun j => by
    unfold elems
    rw [List.mem_filter, List.mem_range]
    exact ⟨fun h => h.2, fun h => ⟨bit_lt h, h⟩⟩
  rw [h] at hs hm
  rw [List.pairwise_append] at hs
  refine ⟨(hm k).1 (by simp), fun j hj => hs.2.2 j hj k (by simp), fun j hj hlt => ?_⟩
  rcases List.mem_append.1 ((hm j).2 hj) with h1 | h1
  · exact h1
  · rcases List.mem_cons.1 h1 with h1 | h1
    · omega
    · have := (List.pairwise_cons.1 hs.2.1).1 j h1; omega
theorem mem_elems {ws : List Nat} {j : Nat} : j ∈ elems ws ↔ bit ws j = true := by
  unfold elems
  rw [List.mem_filter, List.mem_range]
  exact ⟨fun h => h.2, fun h => ⟨bit_lt h, h⟩⟩
/-- what next tells behind the first ones -/
theorem nxt_elems {ws : List Nat} {pre post : List Nat} (h : elems ws = pre ++ post) (n : Nat) (hn : ∀ j, j ∈ pre → j < n) (hn2 : ∀ j, bit ws j = true → j < n → j ∈ pre) : nxt ws n = post.head? := by
  cases post with
  | nil =>
    refine nxt_none fun j hj => ?_
    cases hb : bit ws j with
    | false => rfl
    | true => have := mem_elems.2 hb; rw [h, List.append_nil] at this; have := hn j this; omega
  | cons k post =>
    obtain ⟨h1, h2, h3⟩ := elems_split h
    refine nxt_some ?_ h1 (fun j hj1 hj2 => ?_)
    · apply Classical.byContradiction
      intro hlt
      have := hn2 k h1 (by omega)
      have := h2 k this; omega
    · cases hb : bit ws j with
      | false => rfl
      | true => have := hn j (h3 j hb hj2); omega

def hdI (l : List Nat) : Int := match l.head? with | some k => (k : Int) | none => -1
theorem nxI_elems {ws : List Nat} {pre post : List Nat} (h : elems ws = pre ++ post) (n : Int) (hn : ∀ j, j ∈ pre → (j : Int) < n) (h0 : 0 ≤ n) (hn2 : ∀ j, bit ws j = true → (j : Int) < n → j ∈ pre) : nxI ws n = hdI post := by
  unfold nxI hdI
  rw [nxt_elems h n.toNat (fun j hj => by have := hn j hj; omega) (fun j hb hj => hn2 j hb (by omega))]
  all_goals (cases post.head? <;> rfl)
theorem all_iter (hT : TabW w) {bx : Nat} {ad : Option Addr} {ws : List Nat} {cap : Nat} {T : TypeId} (hbx : Blk w bx [.slice ad ws.length cap] T) (hown : OwnS w 151 1 ad ws.length cap (ws.map U)) (hok : WOk ws) (hlen : ws.length ≤ 16384) :
    Iter Tryd.prog 95 [ptr bx] (0 :: bx :: blkOf ad) encN (elems ws) w := by
  refine ⟨?_, ?_⟩
  · intro b hb
    simp only [List.mem_cons] at hb
    rcases hb with rfl | rfl | hb
    · exact hT.lt
    · exact hbx.lt
    · exact hown.lt b hb
  intro l w1 J Jx hsz hpriv hstab hJ0 hY hstabx
  have facts : ∀ pre W, J pre W → TabW W ∧ Blk W bx [.slice ad ws.length cap] T ∧ RdW W ad ws := fun pre W hJ => by
    have hp := hpriv pre W hJ
    refine ⟨hT.heap (hp _ (by simp)), by unfold Blk; rw [hp bx (by simp)]; exact hbx, ⟨(hown.keep (fun b hb => hp b (by simp [hb]))).read, hok, by omega⟩⟩
  obtain ⟨hT1, hb1, hr1⟩ := facts _ _ hJ0
  refine enter Tryd.call95 Tryd.func95 rfl rfl rfl rfl ?_
  (repeat first|refine zA ?_|refine zg ?_)
  refine o_load rfl hb1 rfl rfl rfl rfl rfl ?_
  refine o_call (next_ret hT1 hr1 (n := 0) (by omega)) rfl rfl rfl ?_
  rintro v w2 ⟨rfl, rfl⟩
  (repeat first|refine zo rfl rfl trivial ?_|refine zn ?_|refine zb ?_)
  refine r_loop (α := List Nat × List Nat) [0, 1, 3] (fun g => [yv l, ptr bx, I (hdI g.2)]) (fun g W => elems ws = g.1 ++ g.2 ∧ J g.1 W) (fun g => g.2.length) ([], elems ws) ?_ ⟨rfl, hJ0⟩ ?_
  · show [yv l, ptr bx, I (nxI ws 0)] = _
    rw [nxI_elems (pre := []) (post := elems ws) rfl 0 (by simp) (by omega) (fun j _ h => by omega)]
  rintro ⟨pre, post⟩ e W ⟨hx, hJ⟩
  dsimp only at hx hJ ⊢
  cases post with
  | nil =>
    (repeat first|refine zA ?_|refine zB ?_|refine zg ?_|refine zo rfl rfl trivial ?_|refine zn ?_|refine ze rfl ?_|refine zf rfl ?_)
    exact ⟨_, rfl, .inl (by rw [hx, List.append_nil]; exact hJ)⟩
  | cons k rest =>
    have hk : hdI (k :: rest) = (k : Int) := rfl
    rw [hk]
    obtain ⟨hbk, hlt, hall⟩ := elems_split hx
    have hkl := bit_lt hbk
    (repeat first|refine zA ?_|refine zB ?_|refine zC ?_|refine zg ?_|refine zo rfl rfl trivial ?_|refine zn ?_|refine zb ?_|refine zk ?_|refine zt rfl ?_)
    refine o_yield (hY pre k rest W hx hJ) rfl rfl rfl rfl ?_
    rintro b W2 (⟨rfl, hJ2⟩ | ⟨rfl, hJx⟩)
    · obtain ⟨hT2, hb2, hr2⟩ := facts _ _ hJ2
      (repeat first|refine zg ?_|refine zo rfl rfl trivial ?_|refine zn ?_|refine zk ?_|refine zf rfl ?_)
      refine o_load rfl hb2 rfl rfl rfl rfl rfl ?_
      (repeat refine zo rfl rfl (by first|exact trivial|(simp only[AllP];omega)) ?_)
      refine o_call (next_ret hT2 hr2 (n := (k : Int) + 1) (by omega)) rfl rfl rfl ?_
      rintro v W3 ⟨rfl, rfl⟩
      (repeat first|refine zo rfl rfl trivial ?_|refine zn ?_)
      refine ⟨(pre ++ [k], rest), ?_, ⟨by rw [hx]; simp, hJ2⟩, by simp⟩
      show [yv l, ptr bx, I (nxI ws ((k : Int) + 1))] = _
      rw [nxI_elems (pre := pre ++ [k]) (post := rest) (by rw [hx]; simp) _ ?_ (by omega) ?_]
      · intro j hj
        rcases List.mem_append.1 hj with h1 | h1
        · have := hlt j h1; omega
        · simp at h1; omega
      · intro j hb hj
        by_cases h1 : j < k
        · exact List.mem_append_left _ (hall j hb h1)
        · have : j = k := by omega
          subst this; simp
    · (repeat first|refine zo rfl rfl trivial ?_|refine zn ?_|refine zr ?_|refine zt rfl ?_)
      exact ⟨_, rfl, .inr ⟨pre ++ [k], rest, by rw [hx]; simp, hJx⟩⟩
end Go.Vc
/- bits: All, Collect, List; gone. -/
namespace Go.Vc
open Go Go.Proofs
set_option maxRecDepth 10000
variable {w : World}

def encI (k : Nat) : Value := I (k : Int)
theorem Keeps.ne {D l : Nat} {r : Loop} {Fp : List Nat} {w W : World} (h : Keeps D l r Fp w W) {b : Nat} {L : List Value} {T : TypeId} (hb : Blk W b L T) : b ≠ l ∧ b ≠ D := by
  constructor
  · rintro rfl; have := h.loop; unfold Blk at hb; rw [hb] at this; cases this
  · rintro rfl; have := h.shut; unfold Blk at hb; rw [hb] at this; cases this
theorem Keeps.ne_own {D l : Nat} {r : Loop} {Fp : List Nat} {w W : World} (h : Keeps D l r Fp w W) {T : TypeId} {size : Nat} {ad : Option Addr} {n cap : Nat} {xs : List Value} (ho : OwnS W T size ad n cap xs) : l ∉ blkOf ad ∧ D ∉ blkOf ad := by
  cases ad with
  | none => simp [blkOf]
  | some ad =>
    obtain ⟨_, _, _, _, junk, h5, _⟩ := ho.2
    have := h.ne h5
    simp only [blkOf, List.mem_singleton]
    exact ⟨Ne.symm this.1, Ne.symm this.2⟩

/-- a sequence of numbers: a function value that tells them -/
structure SeqIs (w : World) (v : Value) (Fp : List Nat) (xs : List Nat) : Prop where
  is : ∃ f lb, v = .func (.func f) #[] ⟨lb⟩ ∧ Iter Tryd.prog f lb Fp encN xs w
theorem SeqIs.kp {w w' : World} {v : Value} {Fp xs : List Nat} (h : SeqIs w v Fp xs) {S : List Nat} (hk : Kp S w w') (hd : ∀ b, b ∈ Fp → b ∉ S) : SeqIs w' v Fp xs := by
  obtain ⟨f, lb, h1, h2⟩ := h.is
  exact ⟨f, lb, h1, h2.kp hk.size (fun b hb => hk.at_ b (h2.1 b hb) (hd b hb))⟩
theorem SeqIs.lt {v : Value} {Fp xs : List Nat} (h : SeqIs w v Fp xs) : ∀ b, b ∈ Fp → b < w.heap.size := by
  obtain ⟨f, lb, h1, h2⟩ := h.is
  exact h2.1

theorem All_ret (hT : TabW w) {p : Nat} {ws : List Nat} {ad : Option Addr} {cap : Nat} (h : SetAt w p ws ad cap) :
    Ret Tryd.prog 71 [ptr p] w (fun v w' => ∃ Fp, SeqIs w' v (0 :: Fp) (elems ws) ∧ Kp [] w w' ∧ ∀ b, b ∈ Fp → w.heap.size ≤ b) := by
  have hlen := h.len
  refine enter Tryd.call71 Tryd.func71 rfl rfl rfl rfl ?_
  (repeat first|refine zA ?_|refine zg ?_|refine zo rfl rfl trivial ?_|refine zn ?_)
  refine o_call (Words_ret h) rfl rfl rfl ?_
  rintro v w1 ⟨ad1, cap1, rfl, hn1⟩
  refine o_alloc rfl rfl rfl rfl ?_
  intro bx w2 hbx hu2
  have ho2 := hn1.own.kp (hu2.kp [] (.inr (by omega))) (by simp)
  refine o_store rfl hu2.blk (by decide) rfl rfl rfl rfl rfl rfl ?_
  intro w3 hu3
  have hne : bx ∉ blkOf ad1 := fun hb => by have := hn1.own.lt bx hb; omega
  have ho3 := ho2.upd hu3 hne
  have k3 : Kp [] w w3 := (hn1.kp.trans (hu2.kp [] (.inr (by omega)))).since (hu3.kp [bx] (.inl (by simp))) (by have := hn1.kp.size; simp; omega)
  have hT3 := hT.kp k3 (by simp)
  (repeat first|refine zA ?_|refine zg ?_|refine zo rfl rfl trivial ?_|refine zn ?_|refine zr ?_)
  refine ⟨_, rfl, bx :: blkOf ad1, ⟨_, _, rfl, all_iter hT3 hu3.blk ho3 h.ok hlen⟩, k3, ?_⟩
  intro b hb
  rcases List.mem_cons.1 hb with rfl | hb
  · have := hn1.kp.size; omega
  · exact hn1.new b hb
theorem All_nil (hT : TabW w) : Ret Tryd.prog 71 [.pointer none] w (fun v w' => ∃ Fp, SeqIs w' v (0 :: Fp) [] ∧ Kp [] w w' ∧ ∀ b, b ∈ Fp → w.heap.size ≤ b) := by
  refine enter Tryd.call71 Tryd.func71 rfl rfl rfl rfl ?_
  (repeat first|refine zA ?_|refine zg ?_|refine zo rfl rfl trivial ?_|refine zn ?_)
  refine o_call Words_nil rfl rfl rfl ?_
  rintro v w1 ⟨rfl, rfl⟩
  refine o_alloc rfl rfl rfl rfl ?_
  intro bx w2 hbx hu2
  refine o_store rfl hu2.blk (by decide) rfl rfl rfl rfl rfl rfl ?_
  intro w3 hu3
  have k3 : Kp [] w1 w3 := (hu2.kp [] (.inr (by omega))).since (hu3.kp [bx] (.inl (by simp))) (by simp; omega)
  have hT3 := hT.kp k3 (by simp)
  (repeat first|refine zA ?_|refine zg ?_|refine zo rfl rfl trivial ?_|refine zn ?_|refine zr ?_)
  refine ⟨_, rfl, [bx], ⟨_, _, rfl, all_iter (ws := []) (ad := none) (cap := 0) hT3 hu3.blk (ownS_nil _ _ _) (by intro x hx; simp at hx) (by simp)⟩, k3, ?_⟩
  intro b hb
  simp at hb; omega

theorem AppendSeq_ret {v : Value} {Fp xs : List Nat} (h : SeqIs w v Fp xs) (hx : xs.length ≤ 16777216) :
    Ret Tryd.prog 94 [.slice none 0 0, v] w (fun v w' => ∃ ad cap, v = .slice ad xs.length cap ∧ NewS w 3 w' ad xs.length cap (xs.map encI)) := by
  obtain ⟨f, lb, rfl, hI⟩ := h.is
  refine enterM Tryd.call94 Tryd.func94 rfl rfl rfl rfl ?_
  refine m_seq (m_of ?_)
  (repeat refine zg ?_)
  refine o_box rfl rfl rfl ?_
  intro bx w1 hbx hu1
  have k1 : Kp [] w w1 := hu1.kp [] (.inr (by omega))
  have hI1 := hI.kp k1.size (fun b hb => k1.at_ b (hI.1 b hb) (by simp))
  (repeat first|refine zo rfl rfl trivial ?_|refine zn ?_)
  refine m_seq (m_seq (m_of ?_))
  (repeat first|refine zg ?_|refine zo rfl rfl trivial ?_|refine zn ?_)
  refine m_block ?_
  refine m_range hI1 [] (fun pre W => ∃ ad cap, Blk W bx [.slice ad pre.length cap] 22 ∧ OwnS W 3 1 ad pre.length cap (pre.map encI) ∧ Kp [] w W ∧ bx ∉ blkOf ad ∧ ∀ b, b ∈ blkOf ad → w.heap.size ≤ b) (fun _ _ _ => False) rfl rfl (fun _ => rfl) ?_ (fun _ _ _ _ h _ => h) ?_ ?_ ?_ ?_
  · rintro pre W1 W2 ⟨ad, cap, h1, h2, h3, h4, h5⟩ hnc
    exact ⟨ad, cap, hnc.blk h1, hnc.own h2, hnc.kp h3 k1.size, h4, h5⟩
  · exact ⟨none, 0, hu1.blk, ownS_nil _ _ _, k1, by simp [blkOf], by simp [blkOf]⟩
  · intro D l r pre x post W hx' hD hl
    (repeat first|refine zg ?_|refine zo rfl rfl trivial ?_|refine zn ?_)
    refine ⟨rfl, ?_⟩
    rintro W2 ⟨ad, cap, h1, h2, h3, h4, h5⟩ hkeep
    have hpl : pre.length + 1 ≤ xs.length := by rw [hx']; simp
    (repeat first|refine zg ?_|refine zb ?_)
    refine o_load rfl h1 rfl rfl rfl rfl rfl ?_
    (repeat refine zo rfl rfl trivial ?_)
    refine o_buildSlice [I (x : Int)] rfl (by simp [Value.oneCell']) rfl (by decide) (by decide) rfl rfl rfl rfl rfl ?_
    intro b3 W3 hb3 hu3
    have kk3 : Kp [] W2 W3 := hu3.kp [] (.inr (by omega))
    refine o_append1 rfl rfl (h2.kp kk3 (by simp)) hu3.blk rfl rfl rfl rfl (by simp only [maxLen]; omega) (by omega) rfl rfl ?_
    intro ad4 cap4 W4 ho4 kk4 hnew4
    have hB4 : Blk W4 bx [.slice ad pre.length cap] 22 := kk4.blk h4 (kk3.blk (by simp) h1)
    refine o_store rfl hB4 (by simp) rfl rfl rfl rfl rfl rfl ?_
    intro W5 hu5
    have hbx4 : bx ∉ blkOf ad4 := fun hb => by
      rcases hnew4 bx hb with h | h
      · exact h4 h
      · have := h1.lt; have := hu3.size; omega
    have kall : Kp (bx :: blkOf ad) W2 W5 := ((kk3.mono (S' := bx :: blkOf ad) (by simp)).after kk4 (fun b hb => .inl (by simp [hb]))).after (hu5.kp [bx] (.inl (by simp))) (fun b hb => .inl (by simp at hb; simp [hb]))
    (repeat refine zn ?_)
    have hlen4 : pre.length + 1 = (pre ++ [x]).length := by simp
    refine ⟨⟨ad4, cap4, ?_, ?_, ?_, hbx4, ?_⟩, ?_⟩
    · rw [← hlen4]; exact hu5.blk
    · rw [← hlen4, List.map_append]; exact ho4.upd hu5 hbx4
    · exact h3.since kall (fun b hb => by rcases List.mem_cons.1 hb with rfl | hb; omega; exact h5 b hb)
    · intro b hb
      rcases hnew4 b hb with h | h
      · exact h5 b h
      · have := h3.size; have := hu3.size; omega
    · have hne := hkeep.ne_own h2
      have hne1 := hkeep.ne h1
      refine hkeep.kp (fun b hb => ?_) kall ?_ ?_ ?_
      · have := hI.1 b hb; have := h3.size; omega
      · simp only [List.mem_cons, not_or]; exact ⟨Ne.symm hne1.1, hne.1⟩
      · simp only [List.mem_cons, not_or]; exact ⟨Ne.symm hne1.2, hne.2⟩
      · intro b hb hm
        have := hI.1 b hb
        rcases List.mem_cons.1 hm with rfl | hm
        · omega
        · have := h5 b hm; omega
  · rintro D W hD ⟨ad, cap, h1, h2, h3, h4, h5⟩ hsh
    refine m_of ?_
    (repeat first|refine zA ?_|refine zg ?_)
    refine o_load rfl h1 rfl rfl rfl rfl rfl ?_
    (repeat first|refine zo rfl rfl trivial ?_|refine zn ?_|refine zr ?_)
    refine ⟨_, rfl, hsh, ?_⟩
    intro W' hu
    have hnc : Nc w1.heap.size W W' := hu.nc (by omega) (fun x hx => by rw [hsh] at hx; cases hx; rfl)
    exact ⟨ad, cap, rfl, hnc.own h2, hnc.kp h3 k1.size, h5⟩
  · intro D c pre post W _ _ _ hf _
    exact hf.elim

theorem Collect_ret {v : Value} {Fp xs : List Nat} (h : SeqIs w v Fp xs) (hx : xs.length ≤ 16777216) :
    Ret Tryd.prog 70 [v] w (fun v w' => ∃ ad cap, v = .slice ad xs.length cap ∧ NewS w 3 w' ad xs.length cap (xs.map encI)) := by
  have hap := AppendSeq_ret h hx
  obtain ⟨f, lb, rfl, hI⟩ := h.is
  refine enter Tryd.call70 Tryd.func70 rfl rfl rfl rfl ?_
  (repeat first|refine zA ?_|refine zg ?_|refine zo rfl rfl trivial ?_|refine zn ?_)
  refine o_call hap rfl rfl rfl ?_
  rintro v w1 ⟨ad, cap, rfl, hn⟩
  (repeat first|refine zo rfl rfl trivial ?_|refine zn ?_|refine zr ?_)
  exact ⟨_, rfl, ad, cap, rfl, hn⟩
theorem elems_len (ws : List Nat) : (elems ws).length ≤ 64 * ws.length := by
  unfold elems
  have := List.length_filter_le (bit ws) (List.range (64 * ws.length))
  simpa using this
theorem List_ret (hT : TabW w) {p : Nat} {ws : List Nat} {ad : Option Addr} {cap : Nat} (h : SetAt w p ws ad cap) :
    Ret Tryd.prog 39 [ptr p] w (fun v w' => ∃ ad' cap', v = .slice ad' (elems ws).length cap' ∧ NewS w 3 w' ad' (elems ws).length cap' ((elems ws).map encI)) := by
  have hlen := h.len
  have hel := elems_len ws
  refine enter Tryd.call39 Tryd.func39 rfl rfl rfl rfl ?_
  (repeat first|refine zA ?_|refine zg ?_|refine zo rfl rfl trivial ?_|refine zn ?_)
  refine o_call (All_ret hT h) rfl rfl rfl ?_
  rintro v w1 ⟨Fp, hs, k1, hnew⟩
  have hc := Collect_ret hs (by omega)
  obtain ⟨f, lb, rfl, hI⟩ := hs.is
  refine o_call hc rfl rfl rfl ?_
  rintro v w2 ⟨ad2, cap2, rfl, hn⟩
  (repeat first|refine zo rfl rfl trivial ?_|refine zn ?_|refine zr ?_)
  exact ⟨_, rfl, ad2, cap2, rfl, hn.own, k1.trans hn.kp, fun b hb => Nat.le_trans k1.size (hn.new b hb)⟩
theorem List_nil (hT : TabW w) :
    Ret Tryd.prog 39 [.pointer none] w (fun v w' => ∃ ad' cap', v = .slice ad' 0 cap' ∧ NewS w 3 w' ad' 0 cap' []) := by
  refine enter Tryd.call39 Tryd.func39 rfl rfl rfl rfl ?_
  (repeat first|refine zA ?_|refine zg ?_|refine zo rfl rfl trivial ?_|refine zn ?_)
  refine o_call (All_nil hT) rfl rfl rfl ?_
  rintro v w1 ⟨Fp, hs, k1, hnew⟩
  have hc := Collect_ret hs (by simp)
  obtain ⟨f, lb, rfl, hI⟩ := hs.is
  refine o_call hc rfl rfl rfl ?_
  rintro v w2 ⟨ad2, cap2, rfl, hn⟩
  (repeat first|refine zo rfl rfl trivial ?_|refine zn ?_|refine zr ?_)
  exact ⟨_, rfl, ad2, cap2, rfl, hn.own, k1.trans hn.kp, fun b hb => Nat.le_trans k1.size (hn.new b hb)⟩

/-! ### gone: the law's reading of an iterator -/
def goneL (xs : List Nat) (most : Int) : List Nat := if 0 ≤ most then xs.take most.toNat else xs
structure GoneI (w : World) (bm bx : Nat) (most : Int) (pre : List Nat) (W : World) (ad : Option Addr) (cap : Nat) : Prop where
  bm_ : Blk W bm [I most] 3
  bx_ : Blk W bx [.slice ad pre.length cap] 22
  own : OwnS W 3 1 ad pre.length cap (pre.map encI)
  kp : Kp [] w W
  ne : bx ∉ blkOf ad
  nm : bm ∉ bx :: blkOf ad
  new : ∀ b, b ∈ blkOf ad → w.heap.size ≤ b
  few : 0 ≤ most → (pre.length : Int) ≤ most
theorem GoneI.nc {bm bx : Nat} {most : Int} {pre : List Nat} {W W' : World} {ad : Option Addr} {cap B : Nat} (h : GoneI w bm bx most pre W ad cap) (hn : Nc B W W') (hB : w.heap.size ≤ B) : GoneI w bm bx most pre W' ad cap :=
  ⟨hn.blk h.bm_, hn.blk h.bx_, hn.own h.own, hn.kp h.kp hB, h.ne, h.nm, h.new, h.few⟩
end Go.Vc
