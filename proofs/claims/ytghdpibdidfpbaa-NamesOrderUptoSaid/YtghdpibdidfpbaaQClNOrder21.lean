/- names: Closest. -/
import Derived.Test.YtghdpibdidfpbaaQClNOrder18
import Derived.Test.YtghdpibdidfpbaaQClNOrder13
import Derived.Test.YtghdpibdidfpbaaQClNOrder7
import Derived.Lib.ItoaNum
namespace Go.Vc
open Go Go.Proofs
set_option maxRecDepth 10000
variable {w : World}
def fge (x y : Nat) : Bool := FloatKind.f64.format.order x y == some .gt || FloatKind.f64.format.order x y == some .eq
def fgt (x y : Nat) : Bool := FloatKind.f64.format.order x y == some .gt
/-- one name more: the best number, whether there is one, its likeness -/
def cloS (name : Str) (least : Nat) (c : Nat × Bool × Nat) (x : Nat × Str) : Nat × Bool × Nat :=
  if fge (like name x.2) least && (!c.2.1 || fgt (like name x.2) c.2.2) then (x.1, true, like name x.2) else c
def cloL (name : Str) (least : Nat) (pre : List (Nat × Str)) : Nat × Bool × Nat := pre.foldl (cloS name least) (0, false, 0)
theorem cloL_snoc (name : Str) (least : Nat) (pre : List (Nat × Str)) (x : Nat × Str) : cloL name least (pre ++ [x]) = cloS name least (cloL name least pre) x := by
  unfold cloL; rw [List.foldl_append]; rfl
structure ClI (w : World) (B b4 b5 b8 b9 b10 : Nat) (name : Str) (least : Nat) (pre : List (Nat × Str)) (W : World) : Prop where
  n4 : Blk W b4 [S name] 9
  n5 : Blk W b5 [.float .f64 least] 32
  n8 : Blk W b8 [I (cloL name least pre).1] 3
  n9 : Blk W b9 [.bool (cloL name least pre).2.1] 4
  n10 : Blk W b10 [.float .f64 (cloL name least pre).2.2] 32
  kp : Kp [] w W
  low : ∀ b, b ∈ [b4, b5, b8, b9, b10] → w.heap.size ≤ b ∧ b < B
  ne : b4 ≠ b8 ∧ b4 ≠ b9 ∧ b4 ≠ b10 ∧ b5 ≠ b8 ∧ b5 ≠ b9 ∧ b5 ≠ b10 ∧ b8 ≠ b9 ∧ b8 ≠ b10 ∧ b9 ≠ b10
variable {B b4 b5 b8 b9 b10 : Nat} {name : Str} {least : Nat} {pre : List (Nat × Str)} {W : World}
theorem ClI.nc {W' : World} (h : ClI w B b4 b5 b8 b9 b10 name least pre W) (hn : Nc B W W') (hB : w.heap.size ≤ B) : ClI w B b4 b5 b8 b9 b10 name least pre W' :=
  ⟨hn.blk h.n4, hn.blk h.n5, hn.blk h.n8, hn.blk h.n9, hn.blk h.n10, hn.kp h.kp hB, h.low, h.ne⟩
theorem ClI.kp0 {W' : World} (h : ClI w B b4 b5 b8 b9 b10 name least pre W) (hn : Kp [] W W') : ClI w B b4 b5 b8 b9 b10 name least pre W' :=
  ⟨hn.blk (by simp) h.n4, hn.blk (by simp) h.n5, hn.blk (by simp) h.n8, hn.blk (by simp) h.n9, hn.blk (by simp) h.n10, h.kp.trans hn, h.low, h.ne⟩
set_option maxHeartbeats 3200000 in
theorem closest_ret {pv : Value} {l : List Str} {name : Str} {least : Nat} (hl : l.length ≤ 131072) (hAll : ∀ w', Kp [] w w' → Ret Try.prog 30 [pv] w' (fun v w'' => ∃ Fp, NmSeq w'' v Fp l ∧ Kp [] w' w'' ∧ ∀ b, b ∈ Fp → w'.heap.size ≤ b)) (hp : ∃ p, pv = .pointer p) :
    Ret Try.prog 23 [pv, S name, .float .f64 least] w (fun v w' => v = .tuple #[I (cloL name least (nums l)).1, .bool (cloL name least (nums l)).2.1] ∧ Kp [] w w') := by
  obtain ⟨p, rfl⟩ := hp
  refine enterM Try.call23 Try.func23 rfl rfl rfl rfl ?_
  refine m_seq (m_of ?_)
  (repeat refine zg ?_)
  refine o_box rfl rfl rfl ?_
  intro b4 w1 hb4 hu1
  refine o_box rfl rfl rfl ?_
  intro b5 w2 hb5 hu2
  (repeat first|refine zo rfl rfl trivial ?_|refine zn ?_)
  refine m_seq (m_of ?_)
  (repeat refine zg ?_)
  refine o_alloc rfl rfl rfl rfl ?_
  intro b8 w3 hb8 hu3
  refine o_alloc rfl rfl rfl rfl ?_
  intro b9 w4 hb9 hu4
  refine o_alloc rfl rfl rfl rfl ?_
  intro b10 w5 hb10 hu5
  have s1 := hu1.size; have s2 := hu2.size; have s3 := hu3.size; have s4 := hu4.size; have s5 := hu5.size
  have t1 := hu1.lt; have t2 := hu2.lt; have t3 := hu3.lt; have t4 := hu4.lt; have t5 := hu5.lt
  have k5 : Kp [] w w5 := ((hu1.kp [] (.inr (by omega))).trans (hu2.kp [] (.inr (by omega)))).trans (((hu3.kp [] (.inr (by omega))).trans (hu4.kp [] (.inr (by omega)))).trans (hu5.kp [] (.inr (by omega))))
  refine o_store rfl (hu5.kept (by omega) (hu4.kept (by omega) hu3.blk)) (by decide) rfl rfl rfl rfl rfl rfl ?_
  intro w6 hu6
  refine o_store rfl (hu6.kept (by omega) (hu5.kept (by omega) hu4.blk)) (by decide) rfl rfl rfl rfl rfl rfl ?_
  intro w7 hu7
  refine o_store rfl (hu7.kept (by omega) (hu6.kept (by omega) hu5.blk)) (by decide) rfl rfl rfl rfl rfl rfl ?_
  intro w8 hu8
  have s6 := hu6.size; have s7 := hu7.size; have s8 := hu8.size
  have k8 : Kp [] w w8 := k5.since (((hu6.kp [b8, b9, b10] (.inl (by simp))).trans (hu7.kp [b8, b9, b10] (.inl (by simp)))).trans (hu8.kp [b8, b9, b10] (.inl (by simp)))) (by simp; omega)
  have n4 : Blk w8 b4 [S name] 9 := hu8.kept (by omega) (hu7.kept (by omega) (hu6.kept (by omega) (hu5.kept (by omega) (hu4.kept (by omega) (hu3.kept (by omega) (hu2.kept (by omega) hu1.blk))))))
  have n5 : Blk w8 b5 [.float .f64 least] 32 := hu8.kept (by omega) (hu7.kept (by omega) (hu6.kept (by omega) (hu5.kept (by omega) (hu4.kept (by omega) (hu3.kept (by omega) hu2.blk)))))
  have n8 : Blk w8 b8 [I 0] 3 := hu8.kept (by omega) (hu7.kept (by omega) hu6.blk)
  have n9 : Blk w8 b9 [.bool false] 4 := hu8.kept (by omega) hu7.blk
  have n10 : Blk w8 b10 [.float .f64 0] 32 := hu8.blk
  (repeat refine zn ?_)
  refine m_seq (m_seq (m_of ?_))
  (repeat first|refine zg ?_|refine zo rfl rfl trivial ?_)
  refine o_call (hAll w8 k8) rfl rfl rfl ?_
  rintro v w9 ⟨Fp, ⟨ff, lb, rfl, hI⟩, k89, hFp⟩
  have s9 := k89.size
  have g0 : ClI w w9.heap.size b4 b5 b8 b9 b10 name least [] w9 := ⟨k89.blk (by simp) n4, k89.blk (by simp) n5, k89.blk (by simp) n8, k89.blk (by simp) n9, k89.blk (by simp) n10, k8.trans k89,
    fun b hb => by simp only [List.mem_cons, List.not_mem_nil, or_false] at hb; omega, by omega⟩
  (repeat refine zn ?_)
  refine m_block ?_
  refine m_range hI [] (fun pre W => ClI w w9.heap.size b4 b5 b8 b9 b10 name least pre W) (fun c pre W => False) rfl rfl (fun _ => rfl) ?_ ?_ ?_ ?_ ?_ ?_
  · rintro pre W1 W2 hg hnc
    exact hg.nc hnc (by omega)
  · rintro c pre W1 W2 hf hnc
    exact hf
  · exact g0
  · intro D ll r pre x post W hx' hD hll
    (repeat first|refine zA ?_|refine zg ?_|refine zo rfl rfl trivial ?_|refine zn ?_)
    refine ⟨rfl, ?_⟩
    rintro W2 hg hkeep
    obtain ⟨xn, xt⟩ := x
    obtain ⟨hx1, hx2⟩ := nums_split hx'
    dsimp only at hx1 hx2
    subst hx1
    have hpl : pre.length + 1 + post.length = l.length := by rw [← nums_length (l := l), hx']; simp; omega
    have hFll : ∀ b, b ∈ Fp → b < ll := fun b hb => by have := hI.1 b hb; omega
    have hD8 : ∀ {b : Nat}, b ∈ [b4, b5, b8, b9, b10] → b ∉ Fp := fun {b} hb hF => by
      have := hFp b hF
      have := (hg.low b hb).2
      simp only [List.mem_cons, List.not_mem_nil, or_false] at hb
      omega
    have hne := hg.ne
    have hll2 := (Array.getElem?_eq_some_iff.1 hkeep.loop).1
    have hsn := cloL_snoc name least pre (pre.length, xt)
    unfold cloS at hsn
    dsimp only at hsn
    (repeat first|refine zA ?_|refine zg ?_|refine zb ?_)
    refine o_load rfl hg.n4 rfl rfl rfl rfl rfl ?_
    (repeat refine zo rfl rfl trivial ?_)
    refine o_call (likeness_ret name xt W2) rfl rfl rfl ?_
    rintro v W3 ⟨rfl, k3⟩
    have g3 := hg.kp0 k3
    have kp3 := hkeep.kp (fun b hb => by have := hFll b hb; omega) k3 (by simp) (by simp) (by simp)
    (repeat first|refine zA ?_|refine zg ?_|refine zo rfl rfl trivial ?_|refine zn ?_)
    refine o_load rfl g3.n5 rfl rfl rfl rfl rfl ?_
    have takes : ∀ (W4 : World), W4 = W3 → (if fge (like name xt) least && (!(cloL name least pre).2.1 || fgt (like name xt) (cloL name least pre).2.2) then (pre.length, true, like name xt) else cloL name least pre) = (pre.length, true, like name xt) →
        ∀ W5 W6 W7, Upd W4 b8 (.cells ⟨[I (pre.length : Int)]⟩ 3 (0, 0)) W5 → Upd W5 b9 (.cells ⟨[.bool true]⟩ 4 (0, 0)) W6 → Upd W6 b10 (.cells ⟨[.float .f64 (like name xt)]⟩ 32 (0, 0)) W7 →
        ClI w w9.heap.size b4 b5 b8 b9 b10 name least (pre ++ [(pre.length, xt)]) W7 ∧ Keeps D ll r Fp w9 W7 := by
      rintro W4 rfl hif W5 W6 W7 hv5 hv6 hv7
      rw [hif] at hsn
      have kk : Kp [b8, b9, b10] W4 W7 := ((hv5.kp [b8, b9, b10] (.inl (by simp))).trans (hv6.kp [b8, b9, b10] (.inl (by simp)))).trans (hv7.kp [b8, b9, b10] (.inl (by simp)))
      have e8 := kp3.neB g3.n8
      have e9 := kp3.neB g3.n9
      have e10 := kp3.neB g3.n10
      refine ⟨⟨kk.blk (by simp; omega) g3.n4, kk.blk (by simp; omega) g3.n5, ?_, ?_, ?_, ?_, g3.low, g3.ne⟩, ?_⟩
      · rw [hsn]; exact hv7.kept (by omega) (hv6.kept (by omega) hv5.blk)
      · rw [hsn]; exact hv7.kept (by omega) hv6.blk
      · rw [hsn]; exact hv7.blk
      · exact g3.kp.since kk (fun b hb => (g3.low b (by simp only [List.mem_cons, List.not_mem_nil, or_false] at hb ⊢; omega)).1)
      · refine kp3.kp (fun b hb => by have := hFll b hb; have := (Array.getElem?_eq_some_iff.1 kp3.loop).1; omega) kk ?_ ?_ ?_
        · simp only [List.mem_cons, List.not_mem_nil, or_false, not_or]; exact ⟨Ne.symm e8.1, Ne.symm e9.1, Ne.symm e10.1⟩
        · simp only [List.mem_cons, List.not_mem_nil, or_false, not_or]; exact ⟨Ne.symm e8.2, Ne.symm e9.2, Ne.symm e10.2⟩
        · intro b hb hm
          exact hD8 (b := b) (by simp only [List.mem_cons, List.not_mem_nil, or_false] at hm ⊢; omega) hb
    have stays : (if fge (like name xt) least && (!(cloL name least pre).2.1 || fgt (like name xt) (cloL name least pre).2.2) then (pre.length, true, like name xt) else cloL name least pre) = cloL name least pre →
        ClI w w9.heap.size b4 b5 b8 b9 b10 name least (pre ++ [(pre.length, xt)]) W3 ∧ Keeps D ll r Fp w9 W3 := by
      intro hif
      rw [hif] at hsn
      exact ⟨⟨g3.n4, g3.n5, by rw [hsn]; exact g3.n8, by rw [hsn]; exact g3.n9, by rw [hsn]; exact g3.n10, g3.kp, g3.low, g3.ne⟩, kp3⟩
    (repeat refine zo rfl rfl trivial ?_)
    refine o_split _ _ rfl rfl rfl (fun h1 => ?_) (fun h1 => ?_)
    · have h1 : fge (like name xt) least = true := h1
      refine o_load rfl g3.n9 rfl rfl rfl rfl rfl ?_
      (repeat refine zo rfl rfl trivial ?_)
      refine o_split _ _ rfl rfl rfl (fun h2 => ?_) (fun h2 => ?_)
      · (repeat first|refine zg ?_|refine zo rfl rfl trivial ?_|refine zn ?_|refine zt rfl ?_)
        refine o_store rfl g3.n8 (by simp) rfl rfl rfl rfl rfl rfl ?_
        intro W5 hv5
        refine o_store rfl (hv5.kept (by omega) g3.n9) (by simp) rfl rfl rfl rfl rfl rfl ?_
        intro W6 hv6
        refine o_store rfl (hv6.kept (by omega) (hv5.kept (by omega) g3.n10)) (by simp) rfl rfl rfl rfl rfl rfl ?_
        intro W7 hv7
        (repeat refine zn ?_)
        exact takes W3 rfl (by rw [h1, h2]; rfl) W5 W6 W7 hv5 hv6 hv7
      · (repeat refine zo rfl rfl trivial ?_)
        refine o_load rfl g3.n10 rfl rfl rfl rfl rfl ?_
        (repeat first|refine zo rfl rfl trivial ?_|refine zn ?_)
        cases h3 : fgt (like name xt) (cloL name least pre).2.2 with
        | true =>
          have h3' := h3
          unfold fgt at h3'
          rw [h3']
          (repeat first|refine zg ?_|refine zo rfl rfl trivial ?_|refine zt rfl ?_)
          refine o_store rfl g3.n8 (by simp) rfl rfl rfl rfl rfl rfl ?_
          intro W5 hv5
          refine o_store rfl (hv5.kept (by omega) g3.n9) (by simp) rfl rfl rfl rfl rfl rfl ?_
          intro W6 hv6
          refine o_store rfl (hv6.kept (by omega) (hv5.kept (by omega) g3.n10)) (by simp) rfl rfl rfl rfl rfl rfl ?_
          intro W7 hv7
          (repeat refine zn ?_)
          exact takes W3 rfl (by rw [h1, h3, Bool.or_true]; rfl) W5 W6 W7 hv5 hv6 hv7
        | false =>
          have h3' := h3
          unfold fgt at h3'
          rw [h3']
          (repeat first|refine zk ?_|refine zf rfl ?_)
          exact stays (by rw [h1, h2, h3]; rfl)
    · have h1 : fge (like name xt) least = false := h1
      (repeat first|refine zo rfl rfl trivial ?_|refine zn ?_|refine zk ?_|refine zV rfl rfl rfl ?_|refine zf rfl ?_)
      exact stays (by rw [h1]; rfl)
  · rintro D W hD hg hsh
    refine m_of ?_
    refine r_seq ?_
    refine r_mix (fun W' => Blk W' b8 [I (cloL name least (nums l)).1] 3 ∧ Blk W' b9 [.bool (cloL name least (nums l)).2.1] 4) [(0, false), (1, false), (2, false), (3, false)] follows_mixed (by kernel_rfl) (by kernel_rfl) (by kernel_rfl) ⟨((Sm.drew W).kp []).blk (by simp) hg.n8, ((Sm.drew W).kp []).blk (by simp) hg.n9⟩ ?_
    have kd := (Sm.drew W).kp []
    generalize ({ W with drawn := W.drawn + 1 } : World) = wd at kd ⊢
    have gd := hg.kp0 kd
    have hshd : wd.heap[D]? = some (.deferred (some [])) := (kd.at_ D (Array.getElem?_eq_some_iff.1 hsh).1 (by simp)).trans hsh
    refine x_load (b := b8) (off := 0) (v := I (cloL name least (nums l)).1) rfl rfl (fun W' h' => Blk.cell h'.1 rfl) rfl rfl rfl rfl ?_
    refine x_load (b := b9) (off := 0) (v := .bool (cloL name least (nums l)).2.1) rfl rfl (fun W' h' => Blk.cell h'.2 rfl) rfl rfl rfl rfl ?_
    (repeat first|refine xo rfl rfl trivial ?_|refine xn ?_)
    (repeat refine zr ?_)
    refine ⟨_, rfl, hshd, ?_⟩
    intro W' hu
    have hnc : Nc w9.heap.size wd W' := hu.nc (by omega) (fun x hx => by rw [hshd] at hx; cases hx; rfl)
    exact ⟨rfl, hnc.kp gd.kp (by omega)⟩
  · rintro D c pre post W hD _ hx' hf hsh
    exact hf.elim
end Go.Vc
/- The order of floats, by a key. -/
namespace Go.Vc
open Go
/-- -1 and 1: the infinities; a number by its count of least units -/
def fk : Ieee.Datum → Int × Int
  | .infinity s => (if s then -1 else 1, 0)
  | .number s m i => (0, Ieee.signed s m (i + 1074).toNat)
  | .nan .. => (0, 0)
def klt (a b : Int × Int) : Prop := a.1 < b.1 ∨ (a.1 = b.1 ∧ a.2 < b.2)
theorem signed_up (s : Bool) (m a c : Nat) : Ieee.signed s m (a + c) = Ieee.signed s m a * (2 ^ c : Nat) := by
  unfold Ieee.signed
  rw [Nat.shiftLeft_eq, Nat.shiftLeft_eq, Nat.pow_add, ← Nat.mul_assoc]
  cases s
  · simp
  · simp only [if_true]
    rw [Int.neg_mul]
    simp
theorem read_place {x : Nat} {s : Bool} {m : Nat} {i : Int} (h : Ieee.double.read x = .number s m i) : -1074 ≤ i := by
  have hl : Ieee.double.leastPlace = -1074 := by decide
  unfold Ieee.Format.read at h
  dsimp only at h
  rw [hl] at h
  split at h
  · cases h; omega
  · split at h
    · cases h; omega
    · split at h <;> cases h
theorem compare_int (a b : Int) : compare a b = if a < b then .lt else if a = b then .eq else .gt := rfl
theorem scale_lt {a b : Int} {c : Nat} : a * (2 ^ c : Nat) < b * (2 ^ c : Nat) ↔ a < b := by
  have hp : (0 : Int) < ((2 ^ c : Nat) : Int) := by have := Nat.two_pow_pos c; omega
  exact ⟨fun h => Int.lt_of_mul_lt_mul_right h (Int.le_of_lt hp), fun h => Int.mul_lt_mul_of_pos_right h hp⟩
theorem scale_eq {a b : Int} {c : Nat} : a * (2 ^ c : Nat) = b * (2 ^ c : Nat) ↔ a = b := by
  have hp : ((2 ^ c : Nat) : Int) ≠ 0 := by have := Nat.two_pow_pos c; omega
  exact ⟨fun h => Int.eq_of_mul_eq_mul_right hp h, fun h => by rw [h]⟩
noncomputable def kord (a b : Int × Int) : Ordering := open Classical in if klt a b then .lt else if a = b then .eq else .gt
theorem order_datum {d e : Ieee.Datum} (hd : d.isNaN = false) (he : e.isNaN = false) (h1 : ∀ s m i, d = .number s m i → -1074 ≤ i) (h2 : ∀ s m i, e = .number s m i → -1074 ≤ i) : d.order e = some (kord (fk d) (fk e)) := by
  cases d with
  | nan s f => cases hd
  | infinity s =>
    cases e with
    | nan s f => cases he
    | infinity t => cases s <;> cases t <;> simp [Ieee.Datum.order, kord, klt, fk] <;> rfl
    | number t n j => cases s <;> simp [Ieee.Datum.order, kord, klt, fk]
  | number s m i =>
    cases e with
    | nan s f => cases he
    | infinity t => cases t <;> simp [Ieee.Datum.order, kord, klt, fk]
    | number t n j =>
      have hi := h1 _ _ _ rfl
      have hj := h2 _ _ _ rfl
      simp only [Ieee.Datum.order, fk, Option.some.injEq]
      obtain ⟨c, hc⟩ : ∃ c : Nat, (c : Int) = min i j + 1074 := ⟨(min i j + 1074).toNat, by omega⟩
      rw [show (i + 1074).toNat = (i - min i j).toNat + c by omega, show (j + 1074).toNat = (j - min i j).toNat + c by omega, signed_up, signed_up, compare_int]
      have e1 := scale_lt (a := Ieee.signed s m (i - min i j).toNat) (b := Ieee.signed t n (j - min i j).toNat) (c := c)
      have e2 := scale_eq (a := Ieee.signed s m (i - min i j).toNat) (b := Ieee.signed t n (j - min i j).toNat) (c := c)
      generalize Ieee.signed s m (i - min i j).toNat = A at e1 e2 ⊢
      generalize Ieee.signed t n (j - min i j).toNat = B at e1 e2 ⊢
      unfold kord
      by_cases g1 : A < B
      · rw [if_pos g1, if_pos (show klt ((0 : Int), A * ((2 ^ c : Nat) : Int)) ((0 : Int), B * ((2 ^ c : Nat) : Int)) from .inr ⟨rfl, e1.2 g1⟩)]
      · have n1 : ¬ klt ((0 : Int), A * ((2 ^ c : Nat) : Int)) ((0 : Int), B * ((2 ^ c : Nat) : Int)) := fun h => by
          rcases h with h | h
          · exact absurd h (Int.lt_irrefl _)
          · exact g1 (e1.1 h.2)
        rw [if_neg n1, if_neg g1]
        by_cases g2 : A = B
        · rw [if_pos g2, if_pos (by rw [g2])]
        · rw [if_neg g2, if_neg (fun h => g2 (e2.1 (congrArg Prod.snd h)))]
/-- a word's key -/
def fkw (x : Nat) : Int × Int := fk (Ieee.double.read x)
theorem order_key {x y : Nat} (hx : isNum x = true) (hy : isNum y = true) : FloatKind.f64.format.order x y = some (kord (fkw x) (fkw y)) := by
  refine order_datum ?_ ?_ (fun s m i h => read_place h) (fun s m i h => read_place h)
  · show (Ieee.double.read x).isNaN = false
    unfold isNum at hx; simpa using hx
  · show (Ieee.double.read y).isNaN = false
    unfold isNum at hy; simpa using hy
theorem klt_irrefl {a : Int × Int} : ¬ klt a a := by unfold klt; omega
theorem kord_eq {a b : Int × Int} : kord a b = .eq ↔ a = b := by
  unfold kord; split
  · rename_i h
    simp only [reduceCtorEq, false_iff]
    rintro rfl
    exact klt_irrefl h
  · split <;> simp [*]
theorem kord_gt {a b : Int × Int} : kord a b = .gt ↔ klt b a := by
  unfold kord; split
  · rename_i h
    simp only [reduceCtorEq, false_iff]
    intro h2
    unfold klt at h h2; omega
  · rename_i h
    split
    · rename_i e
      subst e
      simp only [reduceCtorEq, false_iff]
      exact klt_irrefl
    · rename_i e
      simp only [true_iff]
      unfold klt at *
      have : ¬ (a.1 = b.1 ∧ a.2 = b.2) := fun q => e (Prod.ext q.1 q.2)
      omega
end Go.Vc
/- The closest name, plain. -/
namespace Go.Vc
open Go Go.Proofs
theorem like_num (s t : Str) : isNum (like s t) = true := by
  unfold like isNum
  rw [likeF_num _ _ (dist_le' s t) (by have h1 : (s.take 256).length ≤ 256 := List.length_take_le _ _; have h2 : (t.take 256).length ≤ 256 := List.length_take_le _ _; omega)]
  rfl
def feq (x y : Nat) : Bool := FloatKind.f64.format.order x y == some .eq
theorem fgt_iff {x y : Nat} (hx : isNum x = true) (hy : isNum y = true) : fgt x y = true ↔ klt (fkw y) (fkw x) := by
  unfold fgt
  rw [order_key hx hy]
  rw [← kord_gt]
  simp
theorem feq_iff {x y : Nat} (hx : isNum x = true) (hy : isNum y = true) : feq x y = true ↔ fkw x = fkw y := by
  unfold feq
  rw [order_key hx hy]
  rw [← kord_eq]
  simp
/-- what is known of the best one among these -/
structure CloP (name : Str) (least : Nat) (pre : List (Nat × Str)) (c : Nat × Bool × Nat) : Prop where
  none : c.2.1 = false → c.1 = 0 ∧ ∀ x ∈ pre, fge (like name x.2) least = false
  some : c.2.1 = true → ∃ t, (c.1, t) ∈ pre ∧ c.2.2 = like name t ∧ fge (like name t) least = true ∧ ∀ x ∈ pre, fge (like name x.2) least = true → fgt (like name x.2) (like name t) = false ∧ (feq (like name x.2) (like name t) = true → c.1 ≤ x.1)
theorem cloP (name : Str) (least : Nat) : ∀ (post pre : List (Nat × Str)) (c : Nat × Bool × Nat), (pre ++ post).Pairwise (fun a b => a.1 < b.1) → CloP name least pre c → CloP name least (pre ++ post) (post.foldl (cloS name least) c)
  | [], pre, c, _, h => by simpa using h
  | x :: r, pre, c, hp, h => by
    have key : CloP name least (pre ++ [x]) (cloS name least c x) := by
      have hbef : ∀ y ∈ pre, y.1 < x.1 := fun y hy => (List.pairwise_append.1 hp).2.2 y hy x (by simp)
      have nx := like_num name x.2
      unfold cloS
      cases hg : fge (like name x.2) least with
      | false =>
        simp only [Bool.false_and, Bool.false_eq_true, if_false]
        refine ⟨fun h0 => ⟨(h.none h0).1, fun y hy => ?_⟩, fun h1 => ?_⟩
        · rcases List.mem_append.1 hy with hy | hy
          · exact (h.none h0).2 y hy
          · simp at hy; subst hy; exact hg
        · obtain ⟨t, m1, m2, m3, m4⟩ := h.some h1
          refine ⟨t, by simp [m1], m2, m3, fun y hy hfy => ?_⟩
          rcases List.mem_append.1 hy with hy | hy
          · exact m4 y hy hfy
          · simp at hy; subst hy; rw [hg] at hfy; cases hfy
      | true =>
        cases hf : c.2.1 with
        | false =>
          simp only [Bool.not_false, Bool.true_or, Bool.and_self, if_true]
          refine ⟨(fun h0 => by cases h0), fun _ => ⟨x.2, by simp, rfl, hg, fun y hy hfy => ?_⟩⟩
          rcases List.mem_append.1 hy with hy | hy
          · rw [(h.none hf).2 y hy] at hfy; cases hfy
          · simp at hy; subst hy
            refine ⟨?_, fun _ => Nat.le_refl _⟩
            rw [Bool.eq_false_iff, ne_eq, fgt_iff nx nx]
            exact klt_irrefl
        | true =>
          obtain ⟨t, m1, m2, m3, m4⟩ := h.some hf
          have nt := like_num name t
          rw [m2]
          cases hgt : fgt (like name x.2) (like name t) with
          | true =>
            simp only [Bool.not_true, Bool.false_or, Bool.and_self, if_true]
            refine ⟨(fun h0 => by cases h0), fun _ => ⟨x.2, by simp, rfl, hg, fun y hy hfy => ?_⟩⟩
            have hk := (fgt_iff nx nt).1 hgt
            rcases List.mem_append.1 hy with hy | hy
            · have hm := (m4 y hy hfy).1
              have ny := like_num name y.2
              rw [Bool.eq_false_iff, ne_eq, fgt_iff ny nt] at hm
              refine ⟨?_, fun he => ?_⟩
              · rw [Bool.eq_false_iff, ne_eq, fgt_iff ny nx]
                unfold klt at *; omega
              · rw [feq_iff ny nx] at he
                rw [he] at hm
                exact absurd hk hm
            · simp at hy; subst hy
              refine ⟨?_, fun _ => Nat.le_refl _⟩
              rw [Bool.eq_false_iff, ne_eq, fgt_iff nx nx]
              exact klt_irrefl
          | false =>
            simp only [Bool.not_true, Bool.false_or, Bool.and_false, Bool.false_eq_true, if_false]
            refine ⟨(fun h0 => by rw [hf] at h0; cases h0), fun _ => ⟨t, by simp [m1], m2, m3, fun y hy hfy => ?_⟩⟩
            rcases List.mem_append.1 hy with hy | hy
            · exact m4 y hy hfy
            · simp at hy; subst hy
              exact ⟨hgt, fun _ => Nat.le_of_lt (hbef _ m1)⟩
    have := cloP name least r (pre ++ [x]) (cloS name least c x) (by simpa using hp) key
    simpa using this
theorem nums_pw (l : List Str) : (nums l).Pairwise (fun a b => a.1 < b.1) := List.pairwise_map.1 nums_inc
theorem cloL_spec (name : Str) (least : Nat) (l : List Str) : CloP name least (nums l) (cloL name least (nums l)) :=
  cloP name least (nums l) [] (0, false, 0) (by simpa using nums_pw l) ⟨fun _ => ⟨rfl, by simp⟩, (fun h => by cases h)⟩
end Go.Vc
/- Fresh names, plain: a base and a number; the numbers of six digits give so many names. -/
namespace Go.Vc
open Go Go.Proofs Go.Lib
/-- the k-th name that is tried -/
def frn (base : Str) (k : Nat) : Str := if k = 0 then base else base.take (24 - nDigits k) ++ decDigits k
/-! ### where a name stands -/
theorem nidx_none {k : Str} : ∀ {l : List Str}, nidx l k = none ↔ k ∉ l
  | [] => by simp [nidx]
  | s :: r => by
    have ih := nidx_none (k := k) (l := r)
    unfold nidx
    by_cases h : k = s
    · simp [h]
    · simp [h, ih]
end Go.Vc
