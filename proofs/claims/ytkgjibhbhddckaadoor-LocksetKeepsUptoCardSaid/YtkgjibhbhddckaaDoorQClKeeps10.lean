/- bits: Del, New. -/
import Derived.Test.YtkgjibhbhddckaaDoorQClKeeps9
namespace Go.Vc
open Go Go.Proofs
set_option maxRecDepth 10000
variable {w : World}

def delW (ws : List Nat) (k : Nat) : List Nat := if k / 64 < ws.length then trim (ws.set (k / 64) (andn (ws.getD (k / 64) 0) (2 ^ (k % 64)))) else ws
theorem Del_ret {p : Nat} {ws : List Nat} {ad : Option Addr} {cap : Nat} (h : SetAt w p ws ad cap) {k : Nat} (hk : k < 1048576) :
    Ret Tryd.prog 36 [ptr p, I k] w (fun v w' => v = I 0 ∧ SetTo w p ad w' (delW ws k) ad cap) := by
  have hlen := h.len
  refine enter Tryd.call36 Tryd.func36 rfl rfl rfl rfl ?_
  (repeat first|refine zA ?_|refine zB ?_|refine zg ?_|refine zo rfl rfl trivial ?_|refine zn ?_)
  refine o_call (check_ret h k) rfl rfl rfl ?_
  rintro v w' ⟨rfl, rfl⟩
  have hchk : chk k = 0 := by unfold chk; rw [if_pos (by omega)]
  rw [hchk]
  (repeat first|refine zA ?_|refine zB ?_|refine zg ?_|refine zo rfl rfl (by first|exact trivial|(simp(discharger:=omega)only[AllP,cA,cB];omega)) ?_|refine zn ?_|refine zk ?_|refine zf rfl ?_)
  refine o_load rfl h.hdr rfl rfl rfl rfl rfl ?_
  (repeat first|refine zo rfl rfl trivial ?_|refine zn ?_)
  refine r_if rfl (fun hc => ?_) (fun hc => ?_)
  · have hk64 : k / 64 < ws.length := by rw [tdiv64] at hc; omega
    obtain ⟨b, junk, rfl, hblk⟩ := h.blk (by omega)
    have hx : ws.getD (k / 64) 0 < 2 ^ 64 := h.ok.getD _
    have hcell : (ws.map U ++ junk)[k / 64]? = some (U (ws.getD (k / 64) 0)) := by
      rw [List.getElem?_append_left (by simpa using hk64), List.getElem?_map, List.getD_eq_getElem?_getD, List.getElem?_eq_getElem hk64]; rfl
    refine r_seq ?_
    refine r_lastL follows_mixed rfl (by kernel_rfl) (by kernel_rfl) ?_
    dsimp only [List.dropLast]
    (repeat refine yo rfl rfl trivial ?_)
    refine q_load rfl (fun w hs => (hs.blk h.hdr).cell rfl) rfl rfl rfl rfl ?_
    (repeat refine yo rfl rfl (by first|exact trivial|(simp(discharger:=omega)only[AllP,cA,cB];omega)) ?_)
    refine q_load (v := U (ws.getD (k / 64) 0)) rfl (fun w hs => ?_) rfl rfl rfl rfl ?_
    · show w.cell? ⟨b, 0 + (Int.tdiv (k : Int) 64).toNat, none⟩ = _
      rw [tdiv64, Int.toNat_natCast, Nat.zero_add]
      exact (hs.blk hblk).cell hcell
    (repeat first|refine yo rfl rfl (by first|exact trivial|(simp(discharger:=omega)only[AllP,cA,cB];omega)) ?_|refine yn ?_)
    intro w2 hs2
    have e1 : ibits .andNot .u64 ((ws.getD (k / 64) 0 : Nat) : Int) (IntKind.u64.wrap (1 * 2 ^ (min (Int.tmod (k : Int) 64).toNat 64))) = ((andn (ws.getD (k / 64) 0) (2 ^ (k % 64)) : Nat) : Int) := by
      rw [tmod64, Int.toNat_natCast, shl_one (by omega), ibits_andn hx (Nat.pow_lt_pow_right (by omega) (by omega))]
    refine o_store (b := b) (off := k / 64) (v := U (andn (ws.getD (k / 64) 0) (2 ^ (k % 64)))) (c := none) ?_ (hs2.blk hblk) (by simp; omega) ?_ rfl rfl rfl rfl rfl ?_
    · show Value.pointer (some ⟨b, 0 + (Int.tdiv (k : Int) 64).toNat, none⟩) = _
      rw [tdiv64, Int.toNat_natCast, Nat.zero_add]
    · exact congrArg (fun z => some (none, Value.int .u64 z)) e1
    intro w3 hu3
    have hto := h.stored hs2 hk64 (andn_lt hx) hblk hu3
    (repeat first|refine zg ?_|refine zo rfl rfl trivial ?_|refine zn ?_)
    refine o_call (trim_ret hto.at_) rfl rfl rfl ?_
    rintro v w4 ⟨rfl, hto4⟩
    (repeat first|refine zA ?_|refine zg ?_|refine zo rfl rfl trivial ?_|refine zn ?_|refine zr ?_)
    refine ⟨_, rfl, rfl, ?_⟩
    unfold delW
    rw [if_pos hk64]
    exact hto.trans hto4
  · have hk64 : ¬ k / 64 < ws.length := by rw [tdiv64] at hc; omega
    (repeat first|refine zA ?_|refine zg ?_|refine zo rfl rfl trivial ?_|refine zn ?_|refine zr ?_|refine zk ?_)
    refine ⟨_, rfl, rfl, ?_⟩
    unfold delW
    rw [if_neg hk64]
    exact SetTo.refl h
/-- a set that has been made: its blocks are new -/
structure NewSet (w : World) (p : Nat) (w' : World) (ws : List Nat) (ad : Option Addr) (cap : Nat) : Prop where
  at_ : SetAt w' p ws ad cap
  kp : Kp [] w w'
  new : ∀ b, b ∈ p :: blkOf ad → w.heap.size ≤ b
theorem NewSet.to {w1 w2 : World} {p : Nat} {ws1 ws2 : List Nat} {ad1 ad2 : Option Addr} {cap1 cap2 : Nat} (h : NewSet w p w1 ws1 ad1 cap1) (k : SetTo w1 p ad1 w2 ws2 ad2 cap2) : NewSet w p w2 ws2 ad2 cap2 :=
  ⟨k.at_, h.kp.after k.kp (fun b hb => .inr (h.new b hb)), fun b hb => by
    rcases List.mem_cons.1 hb with rfl | hb
    · exact h.new _ (by simp)
    · rcases k.new b hb with h1 | h1
      · exact h.new b (by simp [h1])
      · exact Nat.le_trans h.kp.size h1⟩
/-- what New makes of numbers -/
def newW (l : List Int) (ws : List Nat) : List Nat := l.foldl (fun ws n => putW ws n.toNat) ws
def allOk (l : List Int) : Bool := l.all fun n => decide (0 ≤ n) && decide (n < 1048576)
theorem New_ret (hT : TabW w) {ad : Option Addr} {l : List Int} {cap : Nat} (hr : ReadS w ad (l.map I)) (hl : l.length ≤ 9223372036854775807) :
    Ret Tryd.prog 65 [.slice ad l.length cap] w (fun v w' => (allOk l = true ∧ ∃ p ad' cap', v = .tuple #[ptr p, I 0] ∧ NewSet w p w' (newW l []) ad' cap') ∨ (allOk l = false ∧ v = .tuple #[.pointer none, I 2] ∧ Kp [] w w')) := by
  refine enter Tryd.call65 Tryd.func65 rfl rfl rfl rfl ?_
  (repeat first|refine zA ?_|refine zg ?_|refine zo rfl rfl trivial ?_|refine zn ?_)
  refine o_build [B true, .slice none 0 0] rfl rfl rfl rfl rfl rfl rfl ?_
  refine o_box rfl rfl rfl ?_
  intro p w1 hp hu1
  have hn1 : NewSet w p w1 [] none 0 := ⟨⟨hu1.blk, ownS_nil _ _ _, by intro x hx; simp at hx, by simp, by simp [blkOf]; have := hT.lt; omega⟩, hu1.kp [] (.inr (by omega)), by simp [blkOf]; omega⟩
  (repeat first|refine zA ?_|refine zB ?_|refine zg ?_|refine zo rfl rfl trivial ?_|refine zn ?_|refine zb ?_)
  refine r_loop (α := Nat × Option Addr × Nat) [4, 9, 10, 11] (fun g => [ptr p, .slice ad l.length cap, I l.length, I g.1]) (fun g w2 => NewSet w p w2 (newW (l.take g.1) []) g.2.1 g.2.2 ∧ g.1 ≤ l.length ∧ allOk (l.take g.1) = true) (fun g => l.length - g.1) (0, none, 0) rfl ⟨by simpa [newW] using hn1, by omega, by simp [allOk]⟩ ?_
  rintro ⟨j, ad1, cap1⟩ e w2 ⟨hns, hj, hok⟩
  dsimp only at hns hj hok ⊢
  (repeat first|refine zA ?_|refine zD ?_|refine zg ?_|refine zo rfl rfl trivial ?_|refine zn ?_)
  refine r_if rfl (fun hc => ?_) (fun hc => ?_)
  · have hlt : j < l.length := by omega
    obtain ⟨b, off, rfl, hb, hcell⟩ := hr.at_ (by simp; omega)
    have hcj : w2.cell? ⟨b, off + j, none⟩ = some (I l[j]) := by
      rw [← hcell j (I l[j]) (by simp [hlt])]
      exact World.cell?_of_block (hns.kp.at_ b hb (by simp))
    have htk : l.take (j + 1) = l.take j ++ [l[j]] := by rw [List.take_add_one, List.getElem?_eq_getElem hlt]; rfl
    (repeat first|refine zA ?_|refine zC ?_|refine zg ?_|refine zo rfl rfl (by first|exact trivial|(simp only[AllP];omega)) ?_|refine zb ?_|refine zk ?_)
    refine o_loadc rfl hcj rfl rfl rfl rfl ?_
    (repeat first|refine zA ?_|refine zg ?_|refine zo rfl rfl trivial ?_|refine zn ?_)
    by_cases hn : 0 ≤ l[j] ∧ l[j] < 1048576
    · obtain ⟨k, hk⟩ : ∃ k : Nat, l[j] = (k : Int) := ⟨l[j].toNat, by omega⟩
      rw [hk] at hn ⊢
      refine o_call (Put_ret (hT.kp hns.kp (by simp)) hns.at_ (k := k) (by omega)) rfl rfl rfl ?_
      rintro v w3 ⟨rfl, ad3, cap3, hto⟩
      (repeat first|refine zg ?_|refine zo rfl rfl (by first|exact trivial|(simp only[AllP];omega)) ?_|refine zn ?_|refine zk ?_|refine zf rfl ?_)
      refine ⟨(j + 1, ad3, cap3), rfl, ⟨?_, by dsimp only; omega, ?_⟩, by dsimp only; omega⟩
      · dsimp only
        rw [htk, newW, List.foldl_append]
        show NewSet w p w3 (putW (newW (l.take j) []) (l[j]).toNat) ad3 cap3
        rw [hk]
        exact hns.to hto
      · dsimp only
        rw [htk]
        unfold allOk at hok ⊢
        rw [List.all_append, hok, hk]
        simp; omega
    · refine o_call (Put_bad hns.at_ (n := l[j]) (by omega)) rfl rfl rfl ?_
      rintro v w3 ⟨rfl, rfl⟩
      (repeat first|refine zA ?_|refine zg ?_|refine zo rfl rfl trivial ?_|refine zn ?_|refine zr ?_|refine zt rfl ?_)
      refine ⟨_, rfl, .inr ⟨?_, rfl, hns.kp⟩⟩
      cases hall : allOk l with
      | false => rfl
      | true =>
        have := List.all_eq_true.1 hall l[j] (List.getElem_mem hlt)
        simp at this
        exact absurd this hn
  · have hj2 : j = l.length := by omega
    subst hj2
    rw [List.take_length] at hns hok
    (repeat first|refine zA ?_|refine zg ?_|refine zo rfl rfl trivial ?_|refine zn ?_|refine ze rfl ?_|refine zr ?_)
    exact ⟨_, rfl, .inl ⟨hok, p, ad1, cap1, rfl, hns⟩⟩

/-! ### Numbers in and out: the words' laws -/
theorem getD_zeros (ws : List Nat) (n i : Nat) : (ws ++ List.replicate n 0).getD i 0 = ws.getD i 0 := by
  rw [List.getD_eq_getElem?_getD, List.getD_eq_getElem?_getD]
  by_cases h : i < ws.length
  · rw [List.getElem?_append_left h]
  · rw [List.getElem?_append_right (by omega), List.getElem?_replicate, List.getElem?_eq_none (l := ws) (by omega)]
    split <;> rfl
theorem getD_set (ws : List Nat) (i j x : Nat) (hi : i < ws.length) : (ws.set i x).getD j 0 = if i = j then x else ws.getD j 0 := by
  rw [List.getD_eq_getElem?_getD, List.getD_eq_getElem?_getD, List.getElem?_set]
  by_cases h : i = j
  · subst h; simp [hi]
  · simp [h]
theorem bit_putW (ws : List Nat) (k j : Nat) : bit (putW ws k) j = (bit ws j || decide (k = j)) := by
  unfold putW bit
  dsimp only
  rw [getD_set _ _ _ _ (by simp; omega), getD_zeros, getD_zeros]
  by_cases h : k / 64 = j / 64
  · rw [if_pos h, Nat.testBit_or, Nat.testBit_two_pow, h]
    congr 1
    rw [decide_eq_decide]; omega
  · rw [if_neg h]
    have : k ≠ j := by rintro rfl; exact h rfl
    simp [this]
theorem getD_trim (ws : List Nat) (i : Nat) : (trim ws).getD i 0 = ws.getD i 0 := by
  induction ws generalizing i with
  | nil => rfl
  | cons x r ih =>
    have hh : trim (x :: r) = match trim r with | [] => if x = 0 then [] else [x] | y :: s => x :: y :: s := rfl
    cases ht : trim r with
    | nil =>
      rw [ht] at hh
      dsimp only at hh
      rw [hh]
      have ih' : ∀ i, r.getD i 0 = 0 := fun i => by rw [← ih i, ht]; rfl
      cases i with
      | zero => split <;> simp_all
      | succ i =>
        rw [List.getD_cons_succ, ih' i]
        split <;> rfl
    | cons y s =>
      rw [ht] at hh
      dsimp only at hh
      rw [hh]
      cases i with
      | zero => rfl
      | succ i => rw [List.getD_cons_succ, List.getD_cons_succ, ← ih i, ht]
theorem bit_trim (ws : List Nat) (j : Nat) : bit (trim ws) j = bit ws j := by unfold bit; rw [getD_trim]
theorem bit_delW {ws : List Nat} (hok : WOk ws) (k j : Nat) : bit (delW ws k) j = (bit ws j && !decide (k = j)) := by
  unfold delW
  split
  · rename_i hlt
    rw [bit_trim]
    unfold bit
    rw [getD_set _ _ _ _ hlt]
    by_cases h : k / 64 = j / 64
    · rw [if_pos h, testBit_andn (Nat.pow_lt_pow_right (by omega) (by omega)) (by omega), Nat.testBit_two_pow, h]
      congr 2
      rw [decide_eq_decide]; omega
    · rw [if_neg h]
      have : k ≠ j := by rintro rfl; exact h rfl
      simp [this]
  · rename_i hlt
    by_cases h : k = j
    · subst h
      cases hb : bit ws k with
      | false => rfl
      | true => have := bit_lt hb; omega
    · simp [h]
/-- the numbers, rising -/
def elems (ws : List Nat) : List Nat := (List.range (64 * ws.length)).filter (bit ws)
end Go.Vc
/- bits: Clone, Words, All, List; gone. -/
namespace Go.Vc
open Go Go.Proofs
set_option maxRecDepth 10000
variable {w : World}

/-- the clone of words -/
theorem Clone_ret {ad : Option Addr} {ws : List Nat} {cap : Nat} (h : RdW w ad ws) (hbig : ws.length * 8 ≤ 140737488355328) (hmax : ws.length ≤ maxLen) :
    Ret Tryd.prog 99 [.slice ad ws.length cap] w (fun v w' => ∃ ad' cap', v = .slice ad' ws.length cap' ∧ NewS w 151 w' ad' ws.length cap' (ws.map U) ∧ (ad = none → ad' = none ∧ cap' = 0)) := by
  refine enter Tryd.call99 Tryd.func99 rfl rfl rfl rfl ?_
  (repeat first|refine zA ?_|refine zB ?_|refine zg ?_|refine zo rfl rfl trivial ?_|refine zn ?_)
  cases ad with
  | none =>
    have hws : ws = [] := by have := h.read; simpa [ReadS] using this
    subst hws
    (repeat first|refine zA ?_|refine zg ?_|refine zo rfl rfl trivial ?_|refine zn ?_|refine zr ?_|refine zt rfl ?_)
    exact ⟨_, rfl, none, 0, rfl, ⟨ownS_nil _ _ _, Kp.refl _ _, by simp [blkOf]⟩, fun _ => ⟨rfl, rfl⟩⟩
  | some a =>
    (repeat first|refine zA ?_|refine zg ?_|refine zo rfl rfl trivial ?_|refine zn ?_|refine zk ?_|refine zf rfl ?_)
    refine o_buildSlice0 rfl rfl rfl rfl ?_
    intro b w1 hb hu1
    have k1 : Kp [] w w1 := hu1.kp [] (.inr (by omega))
    have ho1 : OwnS w1 151 1 (some ⟨b, 0, none⟩) 0 0 [] := ⟨rfl, rfl, rfl, Nat.le_refl _, by simp [maxLen], [], hu1.blk, rfl⟩
    (repeat refine zo rfl rfl trivial ?_)
    by_cases h0 : ws.length = 0
    · have hws : ws = [] := List.eq_nil_of_length_eq_zero h0
      subst hws
      refine o_append0 (ad := some ⟨b, 0, none⟩) (k := 0) (cap := 0) (ay := some a) (cy := cap) rfl rfl (Nat.le_refl _) rfl rfl rfl rfl ?_
      (repeat first|refine zo rfl rfl trivial ?_|refine zn ?_|refine zr ?_)
      exact ⟨_, rfl, _, 0, rfl, ⟨ho1, k1, by simp [blkOf]; omega⟩, fun h => by cases h⟩
    · refine o_append (ws.map U) rfl rfl ho1 ?_ rfl rfl rfl (by omega) (by simp) (by omega) (by simp [Value.oneCell']) (by omega) (by simpa using hbig) rfl rfl ?_
      · intro j v hv
        exact (h.kp k1 (by simp)).read j v hv
      intro ad2 cap2 w2 ho2 k2 hnew
      (repeat first|refine zo rfl rfl trivial ?_|refine zn ?_|refine zr ?_)
      rw [Nat.zero_add] at ho2
      refine ⟨_, rfl, ad2, cap2, by rw [Nat.zero_add], ⟨ho2, k1.since k2 (by simp [blkOf]; omega), fun c hc => ?_⟩, fun h => by cases h⟩
      rcases hnew c hc with h1 | h1
      · simp [blkOf] at h1; omega
      · have := hu1.size; omega

theorem Words_ret {p : Nat} {ws : List Nat} {ad : Option Addr} {cap : Nat} (h : SetAt w p ws ad cap) :
    Ret Tryd.prog 81 [ptr p] w (fun v w' => ∃ ad' cap', v = .slice ad' ws.length cap' ∧ NewS w 151 w' ad' ws.length cap' (ws.map U)) := by
  have hlen := h.len
  refine enter Tryd.call81 Tryd.func81 rfl rfl rfl rfl ?_
  (repeat first|refine zA ?_|refine zB ?_|refine zg ?_|refine zo rfl rfl trivial ?_|refine zn ?_)
  refine o_call (there_ret h) rfl rfl rfl ?_
  rintro v w' ⟨rfl, rfl⟩
  (repeat first|refine zA ?_|refine zg ?_|refine zo rfl rfl trivial ?_|refine zn ?_|refine zk ?_|refine zf rfl ?_)
  try refine r_no rfl rfl ?_
  refine o_load rfl h.hdr rfl rfl rfl rfl rfl ?_
  refine o_call (Clone_ret h.rd (by omega) (by simp only [maxLen]; omega)) rfl rfl rfl ?_
  rintro v w2 ⟨ad2, cap2, rfl, hn, _⟩
  (repeat first|refine zo rfl rfl trivial ?_|refine zn ?_|refine zr ?_)
  exact ⟨_, rfl, ad2, cap2, rfl, hn⟩
theorem Words_nil : Ret Tryd.prog 81 [.pointer none] w (fun v w' => v = .slice none 0 0 ∧ w' = w) := by
  refine enter Tryd.call81 Tryd.func81 rfl rfl rfl rfl ?_
  (repeat first|refine zA ?_|refine zB ?_|refine zg ?_|refine zo rfl rfl trivial ?_|refine zn ?_)
  refine o_call there_nil rfl rfl rfl ?_
  rintro v w' ⟨rfl, rfl⟩
  (repeat first|refine zA ?_|refine zg ?_|refine zo rfl rfl trivial ?_|refine zn ?_|refine zr ?_|refine zt rfl ?_)
  exact ⟨_, rfl, rfl, rfl⟩

/-! ### All: the iterator -/
abbrev encN (k : Nat) : List Value := [I (k : Int)]
theorem elems_split {ws : List Nat} {pre post : List Nat} {k : Nat} (h : elems ws = pre ++ k :: post) : bit ws k = true ∧ (∀ j, j ∈ pre → j < k) ∧ ∀ j, bit ws j = true → j < k → j ∈ pre := by
  have hs : (elems ws).Pairwise (· < ·) := List.Pairwise.filter _ List.pairwise_lt_range
  have hm : ∀ j, j ∈ elems ws ↔ bit ws j = true := fun j => by
    unfold elems
    rw [List.mem_filter, List.mem_range]
    exact ⟨fun h => h.2, fun h => ⟨bit_lt h, h⟩⟩
  rw [h] at hs hm
  rw [List.pairwise_append] at hs
  refine ⟨(hm k).1 (by simp), fun j hj => hs.2.2 j hj k (by simp), fun j hj hlt => ?_⟩
  rcases List.mem_append.1 ((hm j).2 hj) with h1 | h1
  · exact h1
  · rcases List.mem_cons.1 h1 with h1 | h1
    · omega
    · have := (List.pairwise_cons.1 hs.2.1).1 j h1; omega
theorem mem_elems {ws : List Nat} {j : Nat} : j ∈ elems ws ↔ bit ws j = true := by
  unfold elems
  rw [List.mem_filter, List.mem_range]
  exact ⟨fun h => h.2, fun h => ⟨bit_lt h, h⟩⟩
/-- what next tells behind the first ones -/
theorem nxt_elems {ws : List Nat} {pre post : List Nat} (h : elems ws = pre ++ post) (n : Nat) (hn : ∀ j, j ∈ pre → j < n) (hn2 : ∀ j, bit ws j = true → j < n → j ∈ pre) : nxt ws n = post.head? := by
  cases post with
  | nil =>
    refine nxt_none fun j hj => ?_
    cases hb : bit ws j with
    | false => rfl
    | true => have := mem_elems.2 hb; rw [h, List.append_nil] at this; have := hn j this; omega
  | cons k post =>
    obtain ⟨h1, h2, h3⟩ := elems_split h
    refine nxt_some ?_ h1 (fun j hj1 hj2 => ?_)
    · apply Classical.byContradiction
      intro hlt
      have := hn2 k h1 (by omega)
      have := h2 k this; omega
    · cases hb : bit ws j with
      | false => rfl
      | true => have := hn j (h3 j hb hj2); omega

def hdI (l : List Nat) : Int := match l.head? with | some k => (k : Int) | none => -1
theorem nxI_elems {ws : List Nat} {pre post : List Nat} (h : elems ws = pre ++ post) (n : Int) (hn : ∀ j, j ∈ pre → (j : Int) < n) (h0 : 0 ≤ n) (hn2 : ∀ j, bit ws j = true → (j : Int) < n → j ∈ pre) : nxI ws n = hdI post := by
  unfold nxI hdI
  rw [nxt_elems h n.toNat (fun j hj => by have := hn j hj; omega) (fun j hb hj => hn2 j hb (by omega))]
  all_goals (cases post.head? <;> rfl)
theorem all_iter (hT : TabW w) {bx : Nat} {ad : Option Addr} {ws : List Nat} {cap : Nat} {T : TypeId} (hbx : Blk w bx [.slice ad ws.length cap] T) (hown : OwnS w 151 1 ad ws.length cap (ws.map U)) (hok : WOk ws) (hlen : ws.length ≤ 16384) :
    Iter Tryd.prog 95 [ptr bx] (0 :: bx :: blkOf ad) encN (elems ws) w := by
  refine ⟨?_, ?_⟩
  · intro b hb
    simp only [List.mem_cons] at hb
    rcases hb with rfl | rfl | hb
    · exact hT.lt
    · exact hbx.lt
    · exact hown.lt b hb
  intro l w1 J Jx hsz hpriv hstab hJ0 hY hstabx
  have facts : ∀ pre W, J pre W → TabW W ∧ Blk W bx [.slice ad ws.length cap] T ∧ RdW W ad ws := fun pre W hJ => by
    have hp := hpriv pre W hJ
    refine ⟨hT.heap (hp _ (by simp)), by unfold Blk; rw [hp bx (by simp)]; exact hbx, ⟨(hown.keep (fun b hb => hp b (by simp [hb]))).read, hok, by omega⟩⟩
  obtain ⟨hT1, hb1, hr1⟩ := facts _ _ hJ0
  refine enter Tryd.call95 Tryd.func95 rfl rfl rfl rfl ?_
  (repeat first|refine zA ?_|refine zg ?_)
  refine o_load rfl hb1 rfl rfl rfl rfl rfl ?_
  refine o_call (next_ret hT1 hr1 (n := 0) (by omega)) rfl rfl rfl ?_
  rintro v w2 ⟨rfl, rfl⟩
  (repeat first|refine zo rfl rfl trivial ?_|refine zn ?_|refine zb ?_)
  refine r_loop (α := List Nat × List Nat) [0, 1, 3] (fun g => [yv l, ptr bx, I (hdI g.2)]) (fun g W => elems ws = g.1 ++ g.2 ∧ J g.1 W) (fun g => g.2.length) ([], elems ws) ?_ ⟨rfl, hJ0⟩ ?_
  · show [yv l, ptr bx, I (nxI ws 0)] = _
    rw [nxI_elems (pre := []) (post := elems ws) rfl 0 (by simp) (by omega) (fun j _ h => by omega)]
  rintro ⟨pre, post⟩ e W ⟨hx, hJ⟩
  dsimp only at hx hJ ⊢
  cases post with
  | nil =>
    (repeat first|refine zA ?_|refine zB ?_|refine zg ?_|refine zo rfl rfl trivial ?_|refine zn ?_|refine ze rfl ?_|refine zf rfl ?_)
    exact ⟨_, rfl, .inl (by rw [hx, List.append_nil]; exact hJ)⟩
  | cons k rest =>
    have hk : hdI (k :: rest) = (k : Int) := rfl
    rw [hk]
    obtain ⟨hbk, hlt, hall⟩ := elems_split hx
    have hkl := bit_lt hbk
    (repeat first|refine zA ?_|refine zB ?_|refine zC ?_|refine zg ?_|refine zo rfl rfl trivial ?_|refine zn ?_|refine zb ?_|refine zk ?_|refine zt rfl ?_)
    refine o_yield (hY pre k rest W hx hJ) rfl rfl rfl rfl ?_
    rintro b W2 (⟨rfl, hJ2⟩ | ⟨rfl, hJx⟩)
    · obtain ⟨hT2, hb2, hr2⟩ := facts _ _ hJ2
      (repeat first|refine zg ?_|refine zo rfl rfl trivial ?_|refine zn ?_|refine zk ?_|refine zf rfl ?_)
      refine o_load rfl hb2 rfl rfl rfl rfl rfl ?_
      (repeat refine zo rfl rfl (by first|exact trivial|(simp only[AllP];omega)) ?_)
      refine o_call (next_ret hT2 hr2 (n := (k : Int) + 1) (by omega)) rfl rfl rfl ?_
      rintro v W3 ⟨rfl, rfl⟩
      (repeat first|refine zo rfl rfl trivial ?_|refine zn ?_)
      refine ⟨(pre ++ [k], rest), ?_, ⟨by rw [hx]; simp, hJ2⟩, by simp⟩
      show [yv l, ptr bx, I (nxI ws ((k : Int) + 1))] = _
      rw [nxI_elems (pre := pre ++ [k]) (post := rest) (by rw [hx]; simp) _ ?_ (by omega) ?_]
      · intro j hj
        rcases List.mem_append.1 hj with h1 | h1
        · have := hlt j h1; omega
        · simp at h1; omega
      · intro j hb hj
        by_cases h1 : j < k
        · exact List.mem_append_left _ (hall j hb h1)
        · have : j = k := by omega
          subst this; simp
    · (repeat first|refine zo rfl rfl trivial ?_|refine zn ?_|refine zr ?_|refine zt rfl ?_)
      exact ⟨_, rfl, .inr ⟨pre ++ [k], rest, by rw [hx]; simp, hJx⟩⟩
end Go.Vc
