/- the shelf at this program, in plain words (printed by tool/lay.py: shelf_lay LaysM.n171 Nm 171 at Tryd as Tryd.layItoa) -/
import Derived.Shelf.Strconv.Itoa3
import Derived.Test.YtghdpibdidfpbaaDoorProg
import Derived.Test.YtghdpibdidfpbaaDoorQClNPlays16
import Derived.WalkKit
import Derived.ProofKit
import Derived.Test.YtghdpibdidfpbaaDoorQClNPlays21
import Derived.Test.YtghdpibdidfpbaaDoorQClNPlays13
namespace Go.Proofs
open Go.Shelf
def Tryd.layItoa_ren : Go.Shelf.Ren := ⟨fun | 171 => 25 | 243 => 43 | 246 => 55 | 283 => 63 | 284 => 64 | 285 => 65 | 286 => 66 | 129 => 75 | 317 => 78 | 318 => 79 | 319 => 80 | 320 => 81 | 337 => 87 | 338 => 88 | n => n, fun | 3 => 3 | 9 => 9 | 2 => 2 | 4 => 4 | 171 => 95 | 0 => 0 | 53 => 96 | 37 => 99 | 5 => 5 | 173 => 100 | 212 => 113 | 51 => 109 | 20 => 20 | 213 => 114 | 46 => 93 | 232 => 124 | 233 => 125 | n => n, fun | 17 => 0 | 18 => 1 | 19 => 2 | n => n⟩
theorem Tryd.layItoa : Go.Proofs.LaysM.n171 Tryd.prog Tryd.layItoa_ren := {
  mixed := by kernel_rfl
  f129 := Tryd.func75.trans (congrArg some (by kernel_rfl))
  f171 := Tryd.func25.trans (congrArg some (by kernel_rfl))
  f243 := Tryd.func43.trans (congrArg some (by kernel_rfl))
  f246 := Tryd.func55.trans (congrArg some (by kernel_rfl))
  f283 := Tryd.func63.trans (congrArg some (by kernel_rfl))
  f284 := Tryd.func64.trans (congrArg some (by kernel_rfl))
  f285 := Tryd.func65.trans (congrArg some (by kernel_rfl))
  f286 := Tryd.func66.trans (congrArg some (by kernel_rfl))
  f317 := Tryd.func78.trans (congrArg some (by kernel_rfl))
  f318 := Tryd.func79.trans (congrArg some (by kernel_rfl))
  f319 := Tryd.func80.trans (congrArg some (by kernel_rfl))
  f320 := Tryd.func81.trans (congrArg some (by kernel_rfl))
  f337 := Tryd.func87.trans (congrArg some (by kernel_rfl))
  f338 := Tryd.func88.trans (congrArg some (by kernel_rfl))
  t0 := Tryd.underlying0
  a0 := Tryd.isAgg0
  z0 := Tryd.sizeOf0
  v0 := Tryd.zeroValue0
  t2 := Tryd.underlying2
  a2 := Tryd.isAgg2
  z2 := Tryd.sizeOf2
  v2 := Tryd.zeroValue2
  t3 := Tryd.underlying3
  a3 := Tryd.isAgg3
  z3 := Tryd.sizeOf3
  v3 := Tryd.zeroValue3
  t4 := Tryd.underlying4
  a4 := Tryd.isAgg4
  z4 := Tryd.sizeOf4
  v4 := Tryd.zeroValue4
  t5 := Tryd.underlying5
  a5 := Tryd.isAgg5
  z5 := Tryd.sizeOf5
  v5 := Tryd.zeroValue5
  t9 := Tryd.underlying9
  a9 := Tryd.isAgg9
  z9 := Tryd.sizeOf9
  v9 := Tryd.zeroValue9
  t20 := Tryd.underlying20
  a20 := Tryd.isAgg20
  z20 := Tryd.sizeOf20
  v20 := Tryd.zeroValue20
  t37 := Tryd.underlying99
  a37 := Tryd.isAgg99
  z37 := Tryd.sizeOf99
  v37 := Tryd.zeroValue99
  t46 := Tryd.underlying93
  a46 := Tryd.isAgg93
  z46 := Tryd.sizeOf93
  v46 := Tryd.zeroValue93
  t51 := Tryd.underlying109
  a51 := Tryd.isAgg109
  z51 := Tryd.sizeOf109
  v51 := Tryd.zeroValue109
  t53 := Tryd.underlying96
  a53 := Tryd.isAgg96
  z53 := Tryd.sizeOf96
  v53 := Tryd.zeroValue96
  t171 := Tryd.underlying95
  a171 := Tryd.isAgg95
  z171 := Tryd.sizeOf95
  v171 := Tryd.zeroValue95
  t173 := Tryd.underlying100
  a173 := Tryd.isAgg100
  z173 := Tryd.sizeOf100
  v173 := Tryd.zeroValue100
  t212 := Tryd.underlying113
  a212 := Tryd.isAgg113
  z212 := Tryd.sizeOf113
  v212 := Tryd.zeroValue113
  t213 := Tryd.underlying114
  a213 := Tryd.isAgg114
  z213 := Tryd.sizeOf114
  t232 := Tryd.underlying124
  a232 := Tryd.isAgg124
  z232 := Tryd.sizeOf124
  v232 := Tryd.zeroValue124
  t233 := Tryd.underlying125
  a233 := Tryd.isAgg125
  z233 := Tryd.sizeOf125
  v233 := Tryd.zeroValue125
  g17 := by kernel_rfl
  g18 := by kernel_rfl
  g19 := by kernel_rfl
  i0 := by kernel_rfl
  i2 := by kernel_rfl
  i3 := by kernel_rfl
  i4 := by kernel_rfl
  i5 := by kernel_rfl
  i9 := by kernel_rfl
  i20 := by kernel_rfl
  i37 := by kernel_rfl
  i46 := by kernel_rfl
  i51 := by kernel_rfl
  i53 := by kernel_rfl
  i171 := by kernel_rfl
  i173 := by kernel_rfl
  i212 := by kernel_rfl
  i232 := by kernel_rfl
  i233 := by kernel_rfl
  m17 := by kernel_rfl
  m18 := by kernel_rfl
  m19 := by kernel_rfl }
end Go.Proofs
/- strconv.Itoa, out of the shelf's contract. -/
namespace Go.Vc
open Go Go.Proofs Go.Shelf Go.RowKit Go.Lib Go.Sort
variable {w : World}
theorem grown_kp {w w1 : World} {k : Nat} {os : Array Obj} (h : w1 = Go.Sort.grow (w.drewN k) os) : Kp [] w w1 := by
  subst h
  refine ⟨rfl, rfl, rfl, ?_, fun i hi _ => ?_⟩
  · show w.heap.size ≤ (w.heap ++ os).size
    rw [Array.size_append]; omega
  · show (w.heap ++ os)[i]? = _
    exact Array.getElem?_append_left hi
theorem itoaF : ItoaF := by
  intro w n hn hP
  refine ⟨Tryd.call25, ?_⟩
  refine Calls.mono (Any.strconv_Itoa Tryd.layItoa (n : Int) (by omega) (by omega) w hP) ?_
  rintro e w' ⟨rfl, k, os, hw⟩
  exact ⟨_, rfl, by show _ = Value.string ⟨⟨Lib.decDigits n⟩⟩; unfold Lib.itoa; simp, grown_kp hw⟩
end Go.Vc
/- names: Closest. -/
namespace Go.Vc
open Go Go.Proofs
set_option maxRecDepth 10000
variable {w : World}
def fge (x y : Nat) : Bool := FloatKind.f64.format.order x y == some .gt || FloatKind.f64.format.order x y == some .eq
def fgt (x y : Nat) : Bool := FloatKind.f64.format.order x y == some .gt
/-- one name more: the best number, whether there is one, its likeness -/
def cloS (name : Str) (least : Nat) (c : Nat × Bool × Nat) (x : Nat × Str) : Nat × Bool × Nat :=
  if fge (like name x.2) least && (!c.2.1 || fgt (like name x.2) c.2.2) then (x.1, true, like name x.2) else c
def cloL (name : Str) (least : Nat) (pre : List (Nat × Str)) : Nat × Bool × Nat := pre.foldl (cloS name least) (0, false, 0)
theorem cloL_snoc (name : Str) (least : Nat) (pre : List (Nat × Str)) (x : Nat × Str) : cloL name least (pre ++ [x]) = cloS name least (cloL name least pre) x := by
  unfold cloL; rw [List.foldl_append]; rfl
structure ClI (w : World) (B b4 b5 b8 b9 b10 : Nat) (name : Str) (least : Nat) (pre : List (Nat × Str)) (W : World) : Prop where
  n4 : Blk W b4 [S name] 9
  n5 : Blk W b5 [.float .f64 least] 56
  n8 : Blk W b8 [I (cloL name least pre).1] 3
  n9 : Blk W b9 [.bool (cloL name least pre).2.1] 4
  n10 : Blk W b10 [.float .f64 (cloL name least pre).2.2] 56
  kp : Kp [] w W
  low : ∀ b, b ∈ [b4, b5, b8, b9, b10] → w.heap.size ≤ b ∧ b < B
  ne : b4 ≠ b8 ∧ b4 ≠ b9 ∧ b4 ≠ b10 ∧ b5 ≠ b8 ∧ b5 ≠ b9 ∧ b5 ≠ b10 ∧ b8 ≠ b9 ∧ b8 ≠ b10 ∧ b9 ≠ b10
variable {B b4 b5 b8 b9 b10 : Nat} {name : Str} {least : Nat} {pre : List (Nat × Str)} {W : World}
theorem ClI.nc {W' : World} (h : ClI w B b4 b5 b8 b9 b10 name least pre W) (hn : Nc B W W') (hB : w.heap.size ≤ B) : ClI w B b4 b5 b8 b9 b10 name least pre W' :=
  ⟨hn.blk h.n4, hn.blk h.n5, hn.blk h.n8, hn.blk h.n9, hn.blk h.n10, hn.kp h.kp hB, h.low, h.ne⟩
theorem ClI.kp0 {W' : World} (h : ClI w B b4 b5 b8 b9 b10 name least pre W) (hn : Kp [] W W') : ClI w B b4 b5 b8 b9 b10 name least pre W' :=
  ⟨hn.blk (by simp) h.n4, hn.blk (by simp) h.n5, hn.blk (by simp) h.n8, hn.blk (by simp) h.n9, hn.blk (by simp) h.n10, h.kp.trans hn, h.low, h.ne⟩
set_option maxHeartbeats 3200000 in
theorem closest_ret {pv : Value} {l : List Str} {name : Str} {least : Nat} (hl : l.length ≤ 131072) (hAll : ∀ w', Kp [] w w' → Ret Tryd.prog 22 [pv] w' (fun v w'' => ∃ Fp, NmSeq w'' v Fp l ∧ Kp [] w' w'' ∧ ∀ b, b ∈ Fp → w'.heap.size ≤ b)) (hp : ∃ p, pv = .pointer p) :
    Ret Tryd.prog 34 [pv, S name, .float .f64 least] w (fun v w' => v = .tuple #[I (cloL name least (nums l)).1, .bool (cloL name least (nums l)).2.1] ∧ Kp [] w w') := by
  obtain ⟨p, rfl⟩ := hp
  refine enterM Tryd.call34 Tryd.func34 rfl rfl rfl rfl ?_
  refine m_seq (m_of ?_)
  (repeat refine zg ?_)
  refine o_box rfl rfl rfl ?_
  intro b4 w1 hb4 hu1
  refine o_box rfl rfl rfl ?_
  intro b5 w2 hb5 hu2
  (repeat first|refine zo rfl rfl trivial ?_|refine zn ?_)
  refine m_seq (m_of ?_)
  (repeat refine zg ?_)
  refine o_alloc rfl rfl rfl rfl ?_
  intro b8 w3 hb8 hu3
  refine o_alloc rfl rfl rfl rfl ?_
  intro b9 w4 hb9 hu4
  refine o_alloc rfl rfl rfl rfl ?_
  intro b10 w5 hb10 hu5
  have s1 := hu1.size; have s2 := hu2.size; have s3 := hu3.size; have s4 := hu4.size; have s5 := hu5.size
  have t1 := hu1.lt; have t2 := hu2.lt; have t3 := hu3.lt; have t4 := hu4.lt; have t5 := hu5.lt
  have k5 : Kp [] w w5 := ((hu1.kp [] (.inr (by omega))).trans (hu2.kp [] (.inr (by omega)))).trans (((hu3.kp [] (.inr (by omega))).trans (hu4.kp [] (.inr (by omega)))).trans (hu5.kp [] (.inr (by omega))))
  refine o_store rfl (hu5.kept (by omega) (hu4.kept (by omega) hu3.blk)) (by decide) rfl rfl rfl rfl rfl rfl ?_
  intro w6 hu6
  refine o_store rfl (hu6.kept (by omega) (hu5.kept (by omega) hu4.blk)) (by decide) rfl rfl rfl rfl rfl rfl ?_
  intro w7 hu7
  refine o_store rfl (hu7.kept (by omega) (hu6.kept (by omega) hu5.blk)) (by decide) rfl rfl rfl rfl rfl rfl ?_
  intro w8 hu8
  have s6 := hu6.size; have s7 := hu7.size; have s8 := hu8.size
  have k8 : Kp [] w w8 := k5.since (((hu6.kp [b8, b9, b10] (.inl (by simp))).trans (hu7.kp [b8, b9, b10] (.inl (by simp)))).trans (hu8.kp [b8, b9, b10] (.inl (by simp)))) (by simp; omega)
  have n4 : Blk w8 b4 [S name] 9 := hu8.kept (by omega) (hu7.kept (by omega) (hu6.kept (by omega) (hu5.kept (by omega) (hu4.kept (by omega) (hu3.kept (by omega) (hu2.kept (by omega) hu1.blk))))))
  have n5 : Blk w8 b5 [.float .f64 least] 56 := hu8.kept (by omega) (hu7.kept (by omega) (hu6.kept (by omega) (hu5.kept (by omega) (hu4.kept (by omega) (hu3.kept (by omega) hu2.blk)))))
  have n8 : Blk w8 b8 [I 0] 3 := hu8.kept (by omega) (hu7.kept (by omega) hu6.blk)
  have n9 : Blk w8 b9 [.bool false] 4 := hu8.kept (by omega) hu7.blk
  have n10 : Blk w8 b10 [.float .f64 0] 56 := hu8.blk
  (repeat refine zn ?_)
  refine m_seq (m_seq (m_of ?_))
  (repeat first|refine zg ?_|refine zo rfl rfl trivial ?_)
  refine o_call (hAll w8 k8) rfl rfl rfl ?_
  rintro v w9 ⟨Fp, ⟨ff, lb, rfl, hI⟩, k89, hFp⟩
  have s9 := k89.size
  have g0 : ClI w w9.heap.size b4 b5 b8 b9 b10 name least [] w9 := ⟨k89.blk (by simp) n4, k89.blk (by simp) n5, k89.blk (by simp) n8, k89.blk (by simp) n9, k89.blk (by simp) n10, k8.trans k89,
    fun b hb => by simp only [List.mem_cons, List.not_mem_nil, or_false] at hb; omega, by omega⟩
  (repeat refine zn ?_)
  refine m_block ?_
  refine m_range hI [] (fun pre W => ClI w w9.heap.size b4 b5 b8 b9 b10 name least pre W) (fun c pre W => False) rfl rfl (fun _ => rfl) ?_ ?_ ?_ ?_ ?_ ?_
  · rintro pre W1 W2 hg hnc
    exact hg.nc hnc (by omega)
  · rintro c pre W1 W2 hf hnc
    exact hf
  · exact g0
  · intro D ll r pre x post W hx' hD hll
    (repeat first|refine zA ?_|refine zg ?_|refine zo rfl rfl trivial ?_|refine zn ?_)
    refine ⟨rfl, ?_⟩
    rintro W2 hg hkeep
    obtain ⟨xn, xt⟩ := x
    obtain ⟨hx1, hx2⟩ := nums_split hx'
    dsimp only at hx1 hx2
    subst hx1
    have hpl : pre.length + 1 + post.length = l.length := by rw [← nums_length (l := l), hx']; simp; omega
    have hFll : ∀ b, b ∈ Fp → b < ll := fun b hb => by have := hI.1 b hb; omega
    have hD8 : ∀ {b : Nat}, b ∈ [b4, b5, b8, b9, b10] → b ∉ Fp := fun {b} hb hF => by
      have := hFp b hF
      have := (hg.low b hb).2
      simp only [List.mem_cons, List.not_mem_nil, or_false] at hb
      omega
    have hne := hg.ne
    have hll2 := (Array.getElem?_eq_some_iff.1 hkeep.loop).1
    have hsn := cloL_snoc name least pre (pre.length, xt)
    unfold cloS at hsn
    dsimp only at hsn
    (repeat first|refine zA ?_|refine zg ?_|refine zb ?_)
    refine o_load rfl hg.n4 rfl rfl rfl rfl rfl ?_
    (repeat refine zo rfl rfl trivial ?_)
    refine o_call (likeness_ret name xt W2) rfl rfl rfl ?_
    rintro v W3 ⟨rfl, k3⟩
    have g3 := hg.kp0 k3
    have kp3 := hkeep.kp (fun b hb => by have := hFll b hb; omega) k3 (by simp) (by simp) (by simp)
    (repeat first|refine zA ?_|refine zg ?_|refine zo rfl rfl trivial ?_|refine zn ?_)
    refine o_load rfl g3.n5 rfl rfl rfl rfl rfl ?_
    have takes : ∀ (W4 : World), W4 = W3 → (if fge (like name xt) least && (!(cloL name least pre).2.1 || fgt (like name xt) (cloL name least pre).2.2) then (pre.length, true, like name xt) else cloL name least pre) = (pre.length, true, like name xt) →
        ∀ W5 W6 W7, Upd W4 b8 (.cells ⟨[I (pre.length : Int)]⟩ 3 (0, 0)) W5 → Upd W5 b9 (.cells ⟨[.bool true]⟩ 4 (0, 0)) W6 → Upd W6 b10 (.cells ⟨[.float .f64 (like name xt)]⟩ 56 (0, 0)) W7 →
        ClI w w9.heap.size b4 b5 b8 b9 b10 name least (pre ++ [(pre.length, xt)]) W7 ∧ Keeps D ll r Fp w9 W7 := by
      rintro W4 rfl hif W5 W6 W7 hv5 hv6 hv7
      rw [hif] at hsn
      have kk : Kp [b8, b9, b10] W4 W7 := ((hv5.kp [b8, b9, b10] (.inl (by simp))).trans (hv6.kp [b8, b9, b10] (.inl (by simp)))).trans (hv7.kp [b8, b9, b10] (.inl (by simp)))
      have e8 := kp3.neB g3.n8
      have e9 := kp3.neB g3.n9
      have e10 := kp3.neB g3.n10
      refine ⟨⟨kk.blk (by simp; omega) g3.n4, kk.blk (by simp; omega) g3.n5, ?_, ?_, ?_, ?_, g3.low, g3.ne⟩, ?_⟩
      · rw [hsn]; exact hv7.kept (by omega) (hv6.kept (by omega) hv5.blk)
      · rw [hsn]; exact hv7.kept (by omega) hv6.blk
      · rw [hsn]; exact hv7.blk
      · exact g3.kp.since kk (fun b hb => (g3.low b (by simp only [List.mem_cons, List.not_mem_nil, or_false] at hb ⊢; omega)).1)
      · refine kp3.kp (fun b hb => by have := hFll b hb; have := (Array.getElem?_eq_some_iff.1 kp3.loop).1; omega) kk ?_ ?_ ?_
        · simp only [List.mem_cons, List.not_mem_nil, or_false, not_or]; exact ⟨Ne.symm e8.1, Ne.symm e9.1, Ne.symm e10.1⟩
        · simp only [List.mem_cons, List.not_mem_nil, or_false, not_or]; exact ⟨Ne.symm e8.2, Ne.symm e9.2, Ne.symm e10.2⟩
        · intro b hb hm
          exact hD8 (b := b) (by simp only [List.mem_cons, List.not_mem_nil, or_false] at hm ⊢; omega) hb
    have stays : (if fge (like name xt) least && (!(cloL name least pre).2.1 || fgt (like name xt) (cloL name least pre).2.2) then (pre.length, true, like name xt) else cloL name least pre) = cloL name least pre →
        ClI w w9.heap.size b4 b5 b8 b9 b10 name least (pre ++ [(pre.length, xt)]) W3 ∧ Keeps D ll r Fp w9 W3 := by
      intro hif
      rw [hif] at hsn
      exact ⟨⟨g3.n4, g3.n5, by rw [hsn]; exact g3.n8, by rw [hsn]; exact g3.n9, by rw [hsn]; exact g3.n10, g3.kp, g3.low, g3.ne⟩, kp3⟩
    (repeat refine zo rfl rfl trivial ?_)
    refine o_split _ _ rfl rfl rfl (fun h1 => ?_) (fun h1 => ?_)
    · have h1 : fge (like name xt) least = true := h1
      refine o_load rfl g3.n9 rfl rfl rfl rfl rfl ?_
      (repeat refine zo rfl rfl trivial ?_)
      refine o_split _ _ rfl rfl rfl (fun h2 => ?_) (fun h2 => ?_)
      · (repeat first|refine zg ?_|refine zo rfl rfl trivial ?_|refine zn ?_|refine zt rfl ?_)
        refine o_store rfl g3.n8 (by simp) rfl rfl rfl rfl rfl rfl ?_
        intro W5 hv5
        refine o_store rfl (hv5.kept (by omega) g3.n9) (by simp) rfl rfl rfl rfl rfl rfl ?_
        intro W6 hv6
        refine o_store rfl (hv6.kept (by omega) (hv5.kept (by omega) g3.n10)) (by simp) rfl rfl rfl rfl rfl rfl ?_
        intro W7 hv7
        (repeat refine zn ?_)
        exact takes W3 rfl (by rw [h1, h2]; rfl) W5 W6 W7 hv5 hv6 hv7
      · (repeat refine zo rfl rfl trivial ?_)
        refine o_load rfl g3.n10 rfl rfl rfl rfl rfl ?_
        (repeat first|refine zo rfl rfl trivial ?_|refine zn ?_)
        cases h3 : fgt (like name xt) (cloL name least pre).2.2 with
        | true =>
          have h3' := h3
          unfold fgt at h3'
          rw [h3']
          (repeat first|refine zg ?_|refine zo rfl rfl trivial ?_|refine zt rfl ?_)
          refine o_store rfl g3.n8 (by simp) rfl rfl rfl rfl rfl rfl ?_
          intro W5 hv5
          refine o_store rfl (hv5.kept (by omega) g3.n9) (by simp) rfl rfl rfl rfl rfl rfl ?_
          intro W6 hv6
          refine o_store rfl (hv6.kept (by omega) (hv5.kept (by omega) g3.n10)) (by simp) rfl rfl rfl rfl rfl rfl ?_
          intro W7 hv7
          (repeat refine zn ?_)
          exact takes W3 rfl (by rw [h1, h3, Bool.or_true]; rfl) W5 W6 W7 hv5 hv6 hv7
        | false =>
          have h3' := h3
          unfold fgt at h3'
          rw [h3']
          (repeat first|refine zk ?_|refine zf rfl ?_)
          exact stays (by rw [h1, h2, h3]; rfl)
    · have h1 : fge (like name xt) least = false := h1
      (repeat first|refine zo rfl rfl trivial ?_|refine zn ?_|refine zk ?_|refine zV rfl rfl rfl ?_|refine zf rfl ?_)
      exact stays (by rw [h1]; rfl)
  · rintro D W hD hg hsh
    refine m_of ?_
    refine r_seq ?_
    refine r_mix (fun W' => Blk W' b8 [I (cloL name least (nums l)).1] 3 ∧ Blk W' b9 [.bool (cloL name least (nums l)).2.1] 4) [(0, false), (1, false), (2, false), (3, false)] follows_mixed (by kernel_rfl) (by kernel_rfl) (by kernel_rfl) ⟨((Sm.drew W).kp []).blk (by simp) hg.n8, ((Sm.drew W).kp []).blk (by simp) hg.n9⟩ ?_
    have kd := (Sm.drew W).kp []
    generalize ({ W with drawn := W.drawn + 1 } : World) = wd at kd ⊢
    have gd := hg.kp0 kd
    have hshd : wd.heap[D]? = some (.deferred (some [])) := (kd.at_ D (Array.getElem?_eq_some_iff.1 hsh).1 (by simp)).trans hsh
    refine x_load (b := b8) (off := 0) (v := I (cloL name least (nums l)).1) rfl rfl (fun W' h' => Blk.cell h'.1 rfl) rfl rfl rfl rfl ?_
    refine x_load (b := b9) (off := 0) (v := .bool (cloL name least (nums l)).2.1) rfl rfl (fun W' h' => Blk.cell h'.2 rfl) rfl rfl rfl rfl ?_
    (repeat first|refine xo rfl rfl trivial ?_|refine xn ?_)
    (repeat refine zr ?_)
    refine ⟨_, rfl, hshd, ?_⟩
    intro W' hu
    have hnc : Nc w9.heap.size wd W' := hu.nc (by omega) (fun x hx => by rw [hshd] at hx; cases hx; rfl)
    exact ⟨rfl, hnc.kp gd.kp (by omega)⟩
  · rintro D c pre post W hD _ hx' hf hsh
    exact hf.elim
end Go.Vc
