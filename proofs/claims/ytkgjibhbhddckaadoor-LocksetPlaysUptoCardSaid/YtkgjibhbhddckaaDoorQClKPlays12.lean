/- bits: Keep, Drop, Turn (of another set). -/
import Derived.Test.YtkgjibhbhddckaaDoorQClKPlays11
namespace Go.Vc
open Go Go.Proofs
set_option maxRecDepth 10000
variable {w : World}

/-- the first i words turned -/
def updW (f : Nat → Nat → Nat) (ws vs : List Nat) (i : Nat) : List Nat := (List.range ws.length).map fun j => if j < i then f (ws.getD j 0) (vs.getD j 0) else ws.getD j 0
theorem updW_len (f : Nat → Nat → Nat) (ws vs : List Nat) (i : Nat) : (updW f ws vs i).length = ws.length := by simp [updW]
theorem updW_getD (f : Nat → Nat → Nat) (ws vs : List Nat) (i j : Nat) (hj : j < ws.length) : (updW f ws vs i).getD j 0 = if j < i then f (ws.getD j 0) (vs.getD j 0) else ws.getD j 0 := by
  unfold updW
  rw [List.getD_eq_getElem?_getD, List.getElem?_map, List.getElem?_range hj]; rfl
theorem updW_zero (f : Nat → Nat → Nat) (ws vs : List Nat) : updW f ws vs 0 = ws := by
  apply List.ext_getElem?
  intro j
  unfold updW
  rw [List.getElem?_map]
  by_cases hj : j < ws.length
  · rw [List.getElem?_range hj, List.getElem?_eq_getElem hj]
    simp [List.getD_eq_getElem?_getD, hj]
  · rw [List.getElem?_eq_none (by simpa using hj), List.getElem?_eq_none (by omega)]; rfl
theorem updW_set (f : Nat → Nat → Nat) (ws vs : List Nat) (i : Nat) (hi : i < ws.length) : (updW f ws vs i).set i (f (ws.getD i 0) (vs.getD i 0)) = updW f ws vs (i + 1) := by
  apply List.ext_getElem?
  intro j
  rw [List.getElem?_set, updW_len]
  unfold updW
  rw [List.getElem?_map, List.getElem?_map]
  by_cases hj : j < ws.length
  · rw [List.getElem?_range hj]
    by_cases hij : i = j
    · subst hij; simp [hi]
    · have h1 : (j < i) = (j < i + 1) := by rw [eq_iff_iff]; omega
      simp [hij, h1]
  · by_cases hij : i = j
    · omega
    · rw [if_neg hij, List.getElem?_eq_none (by simpa using hj)]; rfl
/-- two sets that share nothing -/
def Apart (p : Nat) (ad : Option Addr) (q : Nat) (bd : Option Addr) : Prop := ∀ b, b ∈ q :: blkOf bd → b ∉ p :: blkOf ad
theorem SetTo.other {p q : Nat} {ad ad' bd : Option Addr} {w' : World} {ws' vs : List Nat} {cap' bap : Nat} (h : SetTo w p ad w' ws' ad' cap') (hd : Apart p ad q bd) (k : SetAt w q vs bd bap) : SetAt w' q vs bd bap := k.kp h.kp hd
theorem and_lt {a b : Nat} (ha : a < 2 ^ 64) : a &&& b < 2 ^ 64 := Nat.lt_of_le_of_lt Nat.and_le_left ha

def keepW (ws vs : List Nat) : List Nat := trim (updW (· &&& ·) (ws.take (min ws.length vs.length)) vs (min ws.length vs.length))
theorem Keep_ret {p q : Nat} {ws vs : List Nat} {ad bd : Option Addr} {cap bap : Nat} (h : SetAt w p ws ad cap) (k : SetAt w q vs bd bap) (hd : Apart p ad q bd) :
    Ret Tryd.prog 68 [ptr p, ptr q] w (fun v w' => v = I 0 ∧ SetTo w p ad w' (keepW ws vs) ad cap) := by
  have hl1 := h.len
  have hl2 := k.len
  have hcap := h.own.le_cap
  refine enter Tryd.call68 Tryd.func68 rfl rfl rfl rfl ?_
  (repeat first|refine zA ?_|refine zB ?_|refine zg ?_|refine zo rfl rfl trivial ?_|refine zn ?_)
  refine o_call (there_ret h) rfl rfl rfl ?_
  rintro v w1 ⟨rfl, rfl⟩
  (repeat first|refine zo rfl rfl trivial ?_|refine zU rfl rfl rfl ?_)
  refine o_call (there_ret k) rfl rfl rfl ?_
  rintro v w2 ⟨rfl, rfl⟩
  (repeat first|refine zo rfl rfl trivial ?_|refine zn ?_|refine zk ?_|refine zf rfl ?_)
  refine r_seq ?_
  refine r_lastL follows_mixed rfl (by kernel_rfl) (by kernel_rfl) ?_
  dsimp only [List.dropLast]
  (repeat refine yo rfl rfl trivial ?_)
  refine q_load rfl (fun w hs => (hs.blk h.hdr).cell rfl) rfl rfl rfl rfl ?_
  (repeat refine yo rfl rfl trivial ?_)
  refine q_load rfl (fun w hs => (hs.blk h.hdr).cell rfl) rfl rfl rfl rfl ?_
  (repeat refine yo rfl rfl trivial ?_)
  refine q_load rfl (fun w hs => (hs.blk k.hdr).cell rfl) rfl rfl rfl rfl ?_
  (repeat first|refine yo rfl rfl (by first|exact trivial|(simp only[AllP];omega)) ?_|refine yn ?_)
  intro w3 hs3
  have hmin : (min (ws.length : Int) vs.length).toNat = min ws.length vs.length := by omega
  refine o_store (v := .slice ad (min ws.length vs.length) cap) (c := none) rfl (hs3.blk h.hdr) (by simp) ?_ rfl rfl rfl rfl rfl ?_
  · exact congrArg (fun z => some (none, Value.slice ad z cap)) hmin
  intro w4 hu4
  have hto := h.short hs3 (Nat.min_le_left _ _) hu4
  have hn : (ws.take (min ws.length vs.length)).length = min ws.length vs.length := by simp
  generalize hws : ws.take (min ws.length vs.length) = us at hto hn
  generalize hnn : min ws.length vs.length = n at hn
  have hnv : n ≤ vs.length := by omega
  (repeat first|refine zA ?_|refine zB ?_|refine zg ?_|refine zo rfl rfl trivial ?_|refine zn ?_)
  refine o_load rfl hto.at_.hdr rfl rfl rfl rfl rfl ?_
  (repeat first|refine zo rfl rfl trivial ?_|refine zn ?_|refine zb ?_)
  refine r_loop (α := Nat) [0, 1, 37, 38] (fun i => [ptr p, ptr q, I us.length, I i]) (fun i w5 => SetTo w2 p ad w5 (updW (· &&& ·) us vs i) ad cap ∧ i ≤ n) (fun i => n - i) 0 rfl ⟨by rw [updW_zero]; exact hto, by omega⟩ ?_
  rintro i e w5 ⟨hto5, hi⟩
  have k5 := hto5.other hd k
  have h5 := hto5.at_
  have hul := updW_len (· &&& ·) us vs i
  (repeat first|refine zA ?_|refine zD ?_|refine zg ?_|refine zo rfl rfl trivial ?_|refine zn ?_)
  refine r_if rfl (fun hc => ?_) (fun hc => ?_)
  · have hlt : i < us.length := by omega
    have hlt2 : i < vs.length := by omega
    obtain ⟨b1, j1, rfl, hb1, c1⟩ := h5.word (i := i) (by omega)
    obtain ⟨b2, j2, rfl, hb2, c2⟩ := k5.word hlt2
    rw [updW_getD _ _ _ _ _ hlt, if_neg (by omega)] at c1
    have hx1 : us.getD i 0 < 2 ^ 64 := hto.at_.ok.getD i
    have hx2 : vs.getD i 0 < 2 ^ 64 := k.ok.getD i
    (repeat first|refine zA ?_|refine zC ?_|refine zg ?_|refine zo rfl rfl trivial ?_|refine zn ?_|refine zb ?_|refine zk ?_)
    refine r_lastL follows_mixed rfl (by kernel_rfl) (by kernel_rfl) ?_
    dsimp only [List.dropLast]
    (repeat refine yo rfl rfl trivial ?_)
    refine q_load rfl (fun w hs => (hs.blk h5.hdr).cell rfl) rfl rfl rfl rfl ?_
    (repeat refine yo rfl rfl (by first|exact trivial|(simp only[AllP];omega)) ?_)
    refine q_load (v := U (us.getD i 0)) rfl (fun w hs => ?_) rfl rfl rfl rfl ?_
    · show w.cell? ⟨b1, 0 + i, none⟩ = _
      rw [Nat.zero_add]; exact (hs.blk hb1).cell c1
    (repeat refine yo rfl rfl trivial ?_)
    refine q_load rfl (fun w hs => (hs.blk k5.hdr).cell rfl) rfl rfl rfl rfl ?_
    (repeat refine yo rfl rfl (by first|exact trivial|(simp only[AllP];omega)) ?_)
    refine q_load (v := U (vs.getD i 0)) rfl (fun w hs => ?_) rfl rfl rfl rfl ?_
    · show w.cell? ⟨b2, 0 + i, none⟩ = _
      rw [Nat.zero_add]; exact (hs.blk hb2).cell c2
    (repeat first|refine yo rfl rfl (by first|exact trivial|(simp only[AllP];omega)) ?_|refine yn ?_)
    intro w6 hs6
    have e1 := ibits_and hx1 hx2
    refine o_store (b := b1) (off := i) (v := U (us.getD i 0 &&& vs.getD i 0)) (c := none) ?_ (hs6.blk hb1) (by simp; omega) ?_ rfl rfl rfl rfl rfl ?_
    · show Value.pointer (some ⟨b1, 0 + i, none⟩) = _
      rw [Nat.zero_add]
    · exact congrArg (fun z => some (none, Value.int .u64 z)) e1
    intro w7 hu7
    have hst := h5.stored hs6 (i := i) (by omega) (and_lt hx1) hb1 hu7
    rw [updW_set _ _ _ _ hlt] at hst
    (repeat first|refine zg ?_|refine zo rfl rfl (by first|exact trivial|(simp only[AllP];omega)) ?_|refine zn ?_)
    exact ⟨i + 1, rfl, ⟨hto5.trans hst, by omega⟩, by omega⟩
  · have hin : i = n := by omega
    subst hin
    (repeat first|refine zA ?_|refine zg ?_|refine zo rfl rfl trivial ?_|refine ze rfl ?_)
    refine o_call (trim_ret h5) rfl rfl rfl ?_
    rintro v w6 ⟨rfl, hto6⟩
    (repeat first|refine zA ?_|refine zg ?_|refine zo rfl rfl trivial ?_|refine zn ?_|refine zr ?_)
    refine ⟨_, rfl, rfl, ?_⟩
    unfold keepW
    rw [hws, hnn]
    exact hto5.trans hto6

def dropW (ws vs : List Nat) : List Nat := trim (updW andn ws vs (min ws.length vs.length))
def growW (ws : List Nat) (n : Nat) : List Nat := ws ++ List.replicate (n - ws.length) 0
def turnW (ws vs : List Nat) : List Nat := trim (updW (· ^^^ ·) (growW ws vs.length) vs vs.length)
theorem SetTo.tab {p : Nat} {ws : List Nat} {ad ad1 : Option Addr} {cap cap1 : Nat} {w1 : World} {ws1 : List Nat} (hT : TabW w) (h : SetAt w p ws ad cap) (k : SetTo w p ad w1 ws1 ad1 cap1) : TabW w1 := hT.kp k.kp h.far
end Go.Vc
/- bits: Join. -/
namespace Go.Vc
open Go Go.Proofs
set_option maxRecDepth 10000
variable {w : World}

def joinW (ws vs : List Nat) : List Nat := updW (· ||| ·) (growW ws vs.length) vs vs.length
def moreN (ws vs : List Nat) (n : Nat) : Bool := (List.range n).any fun i => decide (andn (vs.getD i 0) (ws.getD i 0) ≠ 0)
def joinStep (p : Nat) (F : Nat → List Nat) (s : List Nat × Bool) (q : Nat) : List Nat × Bool :=
  (joinW s.1 (if q = p then s.1 else F q), s.2 || moreN (growW s.1 (if q = p then s.1 else F q).length) (if q = p then s.1 else F q) (if q = p then s.1 else F q).length)
/-- another set, or the set itself -/
structure OtherAt (w0 : World) (p : Nat) (ad : Option Addr) (F : Nat → List Nat) (q : Nat) : Prop where
  at_ : q = p ∨ ∃ bd bap, SetAt w0 q (F q) bd bap ∧ Apart p ad q bd

theorem OtherAt.now {w : World} {p : Nat} {ad : Option Addr} {F : Nat → List Nat} {q : Nat} (hq : OtherAt w p ad F q) (us : List Nat) (ad2 : Option Addr) (cap2 : Nat) :
    ∃ bd bap, ∀ w5 us5, SetTo w p ad w5 us5 ad2 cap2 → (q = p → us5 = us) → SetAt w5 q (if q = p then us else F q) bd bap := by
  by_cases hqp : q = p
  · exact ⟨ad2, cap2, fun w5 us5 hto h => by rw [if_pos hqp, ← h hqp, hqp]; exact hto.at_⟩
  · rcases hq.at_ with h | ⟨bd, bap, h1, h2⟩
    · exact absurd h hqp
    · exact ⟨bd, bap, fun w5 us5 hto _ => by rw [if_neg hqp]; exact hto.other h2 h1⟩
end Go.Vc
