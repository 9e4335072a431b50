/- Parts of a proof. -/
import Derived.Test.YtkgngbpkiklckaaGreatDoorQClQExact35
set_option maxHeartbeats 12800000
namespace Go.Vc
open Go Go.Proofs
set_option maxRecDepth 20000
section
variable {w : World}
def RowP (L : Nat → Nat → Prop) (i j k : Nat) : Prop := ∃ j', j' < j ∧ L i j' ∧ (k = j' ∨ Ch L j' k)
section
variable {g : RrG} {E : List Ev} {R : List Int}
theorem row_skip {L : Nat → Nat → Prop} {i j k : Nat} (h : ¬ L i j) : RowP L i (j + 1) k ↔ RowP L i j k := by
 constructor
 ·rintro ⟨j', h1, h2, h3⟩
  by_cases q : j' = j
  ·subst q; exact absurd h2 h
  ·exact ⟨j', oM, h2, h3⟩
 ·rintro ⟨j', h1, h2, h3⟩; exact ⟨j', oM, h2, h3⟩
theorem row_met {L : Nat → Nat → Prop} {i j k : Nat} (h : RowP L i j j) : RowP L i (j + 1) k ↔ RowP L i j k := by
 constructor
 ·rintro ⟨j', h1, h2, h3⟩
  by_cases q : j' = j
  ·subst q
   obtain ⟨a, a1, a2, a3⟩ := h
   refine ⟨a, a1, a2, .inr ?_⟩
   have hc : Ch L a j' := by
    rcases a3 with q | q
    ·omega
    ·exact q
   rcases h3 with q | q
   ·subst q; exact hc
   ·exact hc.trans q
  ·exact ⟨j', oM, h2, h3⟩
 ·rintro ⟨j', h1, h2, h3⟩; exact ⟨j', oM, h2, h3⟩
theorem row_new {L : Nat → Nat → Prop} {i j k : Nat} (h : L i j) : RowP L i (j + 1) k ↔ (RowP L i j k ∨ k = j ∨ Ch L j k) := by
 constructor
 ·rintro ⟨j', h1, h2, h3⟩
  by_cases q : j' = j
  ·subst q; exact .inr h3
  ·exact .inl ⟨j', oM, h2, h3⟩
 ·rintro (⟨j', h1, h2, h3⟩ | q)
  ·exact ⟨j', oM, h2, h3⟩
  ·exact ⟨j, oM, h, q⟩
theorem row_all {i k : Nat} : RowP (lk E R) i E.length k ↔ Ch (lk E R) i k := by
 constructor
 ·rintro ⟨j', _, h2, rfl | h3⟩
  ·exact .one h2
  ·exact .more h2 h3
 ·intro h
  cases h with
  | one h => exact ⟨k, (lk_lt h).2, h, .inl rfl⟩
  | more h1 h2 => exact ⟨_, (lk_lt h1).2, h1, .inr h2⟩
def Qa9 (n m : Nat) (rb : Nat → Nat) : List Value := (List.range n).map fun k => if m ≤ k then .slice (some ⟨rb k, 0, none⟩) n n else .slice none 0 0
theorem Qj2 (n m : Nat) (rb : Nat → Nat) : (Qa9 n m rb).length = n := by simp [Qa9]
theorem Qf4 {n m : Nat} (rb : Nat → Nat) {k : Nat} (hk : k < n) (hm : m ≤ k) : (Qa9 n m rb)[k]? = some (.slice (some ⟨rb k, 0, none⟩) n n) := by
 unfold Qa9; rw [List.getElem?_map, List.getElem?_range hk]; simp [hm]
theorem rowsV_set {n m r : Nat} (rb : Nat → Nat) (hm : m < n) : (Qa9 n (m + 1) rb).set m (.slice (some ⟨r, 0, none⟩) n n) = Qa9 n m (fun k => if k = m then r else rb k) := by
 apply List.ext_getElem?
 intro k
 by_cases hk : k < n
 ·unfold Qa9
  rw [List.getElem?_set]
  by_cases q : m = k
  ·subst q; rw [if_pos rfl, if_pos (by simp; omega), List.getElem?_map, List.getElem?_range hk]; simp
  ·rw [if_neg q, List.getElem?_map, List.getElem?_map, List.getElem?_range hk]
   simp only [Option.map_some]
   by_cases q2 : m + 1 ≤ k
   ·rw [if_pos q2, if_pos oM, if_neg (fun e => q e.symm)]
   ·rw [if_neg q2, if_neg oM]
 ·rw [List.getElem?_eq_none (by rw [List.length_set, Qj2]; omega), List.getElem?_eq_none (by rw [Qj2]; omega)]
structure Qg9 (w : World) (bb : Nat) (E : List Ev) (R : List Int) (m : Nat) (rb : Nat → Nat) : Prop where
 top : Blk w bb (Qa9 E.length m rb) 211
 row : ∀ k, m ≤ k → k < E.length → Blk w (rb k) (bl (fun j => befI E R k j) E.length) 4 ∧ rb k ≠ bb
theorem Qg9.kp {w' : World} {bb m : Nat} {rb : Nat → Nat} {S : List Nat} (h : Qg9 w bb E R m rb) (hk : Kp S w w') (hb : bb ∉ S) (hr : ∀ k, m ≤ k → k < E.length → rb k ∉ S) : Qg9 w' bb E R m rb :=
 ⟨hk.blk hb h.top, fun k h1 h2 => ⟨hk.blk (hr k h1 h2) (h.row k h1 h2).1, (h.row k h1 h2).2⟩⟩
theorem Qg9.kp0 {w' : World} {bb m : Nat} {rb : Nat → Nat} (h : Qg9 w bb E R m rb) (hk : Kp [] w w') : Qg9 w' bb E R m rb := h.kp hk sI sI
structure RrAt (w : World) (g : RrG) (E : List Ev) (R : List Int) : Prop extends RrB w g E R where
 rows : ∃ bb rb, g.bv = .slice (some ⟨bb, 0, none⟩) E.length E.length ∧ Qg9 w bb E R 0 rb
theorem RrAt.kp0 {w' : World} (h : RrAt w g E R) (hk : Kp [] w w') : RrAt w' g E R := ⟨h.toRrB.kp0 hk, by obtain ⟨bb, rb, h1, h2⟩ := h.rows; exact ⟨bb, rb, h1, h2.kp0 hk⟩⟩
def RowsN (n : Nat) (w : World) (bv : Value) (E : List Ev) (R : List Int) : Prop := ∃ bb rb, bv = .slice (some ⟨bb, 0, none⟩) E.length E.length ∧ Qg9 w bb E R 0 rb ∧ n ≤ bb ∧ ∀ k, k < E.length → n ≤ rb k
structure RrFar (n : Nat) (w : World) (g : RrG) (E : List Ev) (R : List Int) : Prop extends RrB w g E R where
 far : ∀ b, b ∈ g.p :: (Ja1 g.ead ++ Ja1 g.rad) → n ≤ b
 rowsN : RowsN n w g.bv E R
theorem RrFar.at_ {n : Nat} (h : RrFar n w g E R) : RrAt w g E R := ⟨h.toRrB, by obtain ⟨bb, rb, h1, h2, _⟩ := h.rowsN; exact ⟨bb, rb, h1, h2⟩⟩
theorem RrFar.kp {n : Nat} {w' : World} {S : List Nat} (h : RrFar n w g E R) (hk : Kp S w w') (hS : ∀ b, b ∈ S → b < n) : RrFar n w' g E R :=
 ⟨h.toRrB.kp hk (fun b hb hb2 => by have := h.far b hb; have := hS b hb2; omega), h.far, by
  obtain ⟨bb, rb, h1, h2, h3, h4⟩ := h.rowsN
  exact ⟨bb, rb, h1, h2.kp hk (fun hb => by have := hS _ hb; omega) (fun k _ hk2 hb => by have := hS _ hb; have := h4 k hk2; omega), h3, h4⟩⟩
theorem rclose_ret (h : RrB w g E R) (hw : ∀ b, b ∈ g.p :: (Ja1 g.ead ++ Ja1 g.rad) → b < w.heap.size) (hp : g.p ∉ Ja1 g.ead ++ Ja1 g.rad) : Ret Tryz.prog 55 [ptr g.p] w (fun v w' => v = .tuple #[] ∧ ∃ bv, RrAt w' { g with bv := bv } E R ∧ Kp [g.p] w w' ∧ RowsN w.heap.size w' bv E R) := by
 have hsm := h.small
 refine Ze Tryz.call55 Tryz.func55 ?_
 refine zS ?_
 refine Zl rfl h.hdr ?_
 refine zS ?_
 refine Jn0 (len := (E.length : Int)) (cap := (E.length : Int)) (kl := .i64) (kc := .i64) rfl rfl rfl rfl rfl oM oM oM oM rfl rfl ?_
 intro bb w1 hbb hu1
 rw [Int.toNat_natCast] at hu1 ⊢
 have k1 : Kp [] w w1 := hu1.new oM
 refine zS ?_
 refine Zt (b := g.p) (off := 2) (v := .slice (some ⟨bb, 0, none⟩) E.length E.length) (c := none) rfl (k1.b0 h.hdr) sI ?_
 intro w2 hu2
 have k2 : Kp [g.p] w1 w2 := hu2.kp _ (.inl sI)
 have hgp := hw g.p sI
 have hB2 : RrB w2 { g with bv := .slice (some ⟨bb, 0, none⟩) E.length E.length } E R :=
  ⟨hu2.blk, (h.ev.kp k1 sI).kp k2 (fun b hb hb2 => by simp at hb2; subst hb2; exact hp (List.mem_append_left _ hb)), (h.ro.kp k1 sI).kp k2 (fun b hb hb2 => by simp at hb2; subst hb2; exact hp (List.mem_append_right _ hb)), h.lr, h.small⟩
 have hT2 : Blk w2 bb (Qa9 E.length E.length (fun _ => 0)) 211 := by
  have := k2.blk (b := bb) (by simp; omega) hu1.blk
  have e : (List.replicate E.length [Value.slice none 0 0]).flatten = Qa9 E.length E.length (fun _ => 0) := by
   apply List.ext_getElem?
   intro k
   have : (List.replicate E.length [Value.slice none 0 0]).flatten = List.replicate E.length (Value.slice none 0 0) := sI
   rw [this, List.getElem?_replicate]
   unfold Qa9
   rw [List.getElem?_map]
   by_cases hk : k < E.length
   ·rw [if_pos hk, List.getElem?_range hk]; simp; omega
   ·rw [if_neg hk, List.getElem?_eq_none (by simp; omega)]; rfl
  rw [← e]; exact this
 have z1 := k1.size
 have z1' := hu1.lt
 have z2 := k2.size
 refine zS ?_
 refine Jb4 (α := Nat × (Nat → Nat)) [0, 2, 3] (fun x => [ptr g.p, I E.length, I ((x.1 : Int) - 1)]) (fun x wc => x.1 ≤ E.length ∧ Qg9 wc bb E R x.1 x.2 ∧ Kp [bb] w2 wc ∧ ∀ k, x.1 ≤ k → k < E.length → w2.heap.size ≤ x.2 k) (fun x => x.1) (E.length, fun _ => 0) rfl
  ⟨lR, ⟨hT2, fun k h1 h2 => by dsimp only at h1; omega⟩, Kp.refl _ _, fun k h1 h2 => by dsimp only at h1; omega⟩ ?_
 rintro ⟨m, rb⟩ e wc ⟨hm, hR, kc, hrb⟩
 dsimp only at hm hR hrb ⊢
 have hbbw : bb < w2.heap.size := oM
 have hnb : ∀ b, b ∈ g.p :: (Ja1 g.ead ++ Ja1 g.rad) → b ∉ [bb] := fun b hb hb2 => by simp at hb2; have := hw b hb; omega
 have hBc := hB2.kp kc hnb
 have zc := kc.size
 refine zS ?_
 refine r_if rfl (fun hc => ?_) (fun hc => ?_)
 ·obtain ⟨i, rfl⟩ : ∃ i, m = i + 1 := ⟨m - 1, oM⟩
  have ei : ((i + 1 : Nat) : Int) - 1 = (i : Int) := oM
  rw [ei]
  have hiE : i < E.length := oM
  refine zS ?_
  refine Jn0 (len := (E.length : Int)) (cap := (E.length : Int)) (kl := .i64) (kc := .i64) rfl rfl rfl rfl rfl oM oM oM oM rfl rfl ?_
  intro r w4 hr hu4
  rw [Int.toNat_natCast] at hu4 ⊢
  have k4 : Kp [] wc w4 := hu4.new oM
  have hr4 : Blk w4 r (bl (fun k => Jp1 (RowP (lk E R) i (i + 1) k)) E.length) 4 := by
   have := hu4.blk
   have e1 : (List.replicate E.length [Value.bool false]).flatten = bl (fun k => Jp1 (RowP (lk E R) i (i + 1) k)) E.length := by
    have e2 : (List.replicate E.length [Value.bool false]).flatten = List.replicate E.length (Value.bool false) := sI
    rw [e2, bl_false]
    refine Jq1 fun k _ => ?_
    symm
    rw [Bool.eq_false_iff]
    intro hh
    obtain ⟨j', h1, h2, _⟩ := Ji4.1 hh
    have := lk_lt h2
    omega
   rw [← e1]; exact this
  have hR4 := hR.kp0 k4
  have hB4 := hBc.kp0 k4
  have z4 := hu4.lt
  have hrbne : ∀ k, i + 1 ≤ k → k < E.length → rb k ≠ r := fun k h1 h2 e => by have := (hR.row k h1 h2).1.lt; omega
  have hrn : ∀ b, b ∈ g.p :: (Ja1 g.ead ++ Ja1 g.rad) → b ∉ [r] := fun b hb hb2 => by simp at hb2; have := hw b hb; omega
  refine zS ?_
  refine Jb4 (α := Nat) [0, 2, 3, 4, 5] (fun j => [ptr g.p, I E.length, I i, .slice (some ⟨r, 0, none⟩) E.length E.length, I j]) (fun j w' => i < j ∧ j ≤ E.length ∧ Blk w' r (bl (fun k => Jp1 (RowP (lk E R) i j k)) E.length) 4 ∧ Kp [r] w4 w') (fun j => E.length - j) (i + 1) rfl ⟨oM, oM, hr4, Kp.refl _ _⟩ ?_
  rintro j e w5 ⟨hij, hjn, hr5, k5⟩
  have hR5 : Qg9 w5 bb E R (i + 1) rb := hR4.kp k5 (by simp; omega) (fun k h1 h2 => by simpa using hrbne k h1 h2)
  have hB5 := hB4.kp k5 hrn
  refine zS ?_
  refine r_if rfl (fun hcj => ?_) (fun hcj => ?_)
  ·have hjE : j < E.length := oM
   have ej : Value.pointer (some ⟨r, 0 + (j : Int).toNat, none⟩) = .pointer (some ⟨r, j, none⟩) := by rw [Nat.zero_add, Int.toNat_natCast]
   refine zS ?_
   refine Jf4 (b := r) (off := j) (v := .bool (Jp1 (RowP (lk E R) i j j))) ej hr5 (Qb6 _ hjE) rfl rfl rfl rfl ?_
   refine zS ?_
   cases hmet : Jp1 (RowP (lk E R) i j j) with
   | true =>
    refine zS ?_
    refine ⟨j + 1, rfl, ⟨oM, oM, ?_, k5⟩, oM⟩
    rw [Jq1 fun k _ => Jm8 (row_met (Ji4.1 hmet))]
    exact hr5
   | false =>
    refine zS ?_
    refine Zc (rWhy_ret hB5 i j) ?_
    rintro v w6 ⟨rfl, k6⟩
    refine zS ?_
    by_cases hl : lk E R i j
    rotate_left
    ·refine Jf7 rfl (by simpa [lk] using hl) ?_
     refine zS ?_
     refine ⟨j + 1, rfl, ⟨oM, oM, ?_, k5.trans (k6.mono sI)⟩, oM⟩
     rw [Jq1 fun k _ => Jm8 (row_skip hl)]
     exact k6.b0 hr5
    refine r_no rfl (by simpa [lk] using hl) ?_
    have hr6 := k6.b0 hr5
    refine zS ?_
    refine Zt (b := r) (off := j) (v := .bool true) (c := none) ej hr6 (by rw [Qh0]; exact hjE) ?_
    intro w7 hu7
    have k7 : Kp [r] w6 w7 := hu7.kp _ (.inl sI)
    have hr7 : Blk w7 r (bl (fun x => Jp1 (RowP (lk E R) i j x ∨ x = j ∨ (x < j + 1 ∧ Ch (lk E R) j x))) E.length) 4 := by
     have := hu7.blk
     rw [bl_set] at this
     rw [Jq1 (g := upB (fun k => Jp1 (RowP (lk E R) i j k)) j true) fun x _ => ?_]
     ·exact this
     ·unfold upB
      by_cases q : x = j
      ·rw [if_pos q]; exact Ji4.2 (.inr (.inl q))
      ·rw [if_neg q]
       refine Jm8 ⟨?_, .inl⟩
       rintro (h1 | h1 | ⟨h1, h2⟩)
       ·exact h1
       ·exact absurd h1 q
       ·have := ch_lt h2; omega
    have k47 : Kp [r] w4 w7 := (k5.trans (k6.mono sI)).trans k7
    refine zS ?_
    refine Jb4 (α := Nat) [0, 2, 3, 4, 5, 6] (fun k => [ptr g.p, I E.length, I i, .slice (some ⟨r, 0, none⟩) E.length E.length, I j, I k]) (fun k w' => j < k ∧ k ≤ E.length ∧ Blk w' r (bl (fun x => Jp1 (RowP (lk E R) i j x ∨ x = j ∨ (x < k ∧ Ch (lk E R) j x))) E.length) 4 ∧ Kp [r] w4 w') (fun k => E.length - k) (j + 1) rfl ⟨oM, oM, hr7, k47⟩ ?_
    rintro k e w8 ⟨hjk, hkn, hr8, k8⟩
    have hR8 : Qg9 w8 bb E R (i + 1) rb := hR4.kp k8 (by simp; omega) (fun k h1 h2 => by simpa using hrbne k h1 h2)
    have hB8 := hB4.kp k8 hrn
    refine zS ?_
    refine r_if rfl (fun hck => ?_) (fun hck => ?_)
    ·have hkE : k < E.length := oM
     have ek : Value.pointer (some ⟨r, 0 + (k : Int).toNat, none⟩) = .pointer (some ⟨r, k, none⟩) := by rw [Nat.zero_add, Int.toNat_natCast]
     have hrow := (hR8.row j oM hjE).1
     refine zS ?_
     have fin : ∀ b, b = (Jp1 (RowP (lk E R) i j k ∨ k = j ∨ (k < k ∧ Ch (lk E R) j k)) || befI E R j k) → ∀ w', Upd w8 r (.cells ⟨(bl (fun x => Jp1 (RowP (lk E R) i j x ∨ x = j ∨ (x < k ∧ Ch (lk E R) j x))) E.length).set k (.bool b)⟩ 4 (0, 0)) w' → Blk w' r (bl (fun x => Jp1 (RowP (lk E R) i j x ∨ x = j ∨ (x < k + 1 ∧ Ch (lk E R) j x))) E.length) 4 ∧ Kp [r] w4 w' := by
      intro b hb w' hu
      refine ⟨?_, k8.trans (hu.kp _ (.inl sI))⟩
      have := hu.blk
      rw [bl_set] at this
      rw [Jq1 (g := upB (fun x => Jp1 (RowP (lk E R) i j x ∨ x = j ∨ (x < k ∧ Ch (lk E R) j x))) k b) fun x _ => ?_]
      ·exact this
      ·unfold upB
       by_cases q : x = k
       ·subst q
        rw [if_pos rfl, hb, Bool.eq_iff_iff, Ji4, Bool.or_eq_true, Ji4, Qc9]
        constructor
        ·rintro (h1 | h1 | ⟨_, h2⟩)
         ·exact .inl (.inl h1)
         ·exact .inl (.inr (.inl h1))
         ·exact .inr h2
        ·rintro ((h1 | h1 | ⟨h1, _⟩) | h1)
         ·exact .inl h1
         ·exact .inr (.inl h1)
         ·omega
         ·exact .inr (.inr ⟨oM, h1⟩)
       ·rw [if_neg q]
        refine Jm8 ⟨?_, ?_⟩
        ·rintro (h1 | h1 | ⟨h1, h2⟩)
         ·exact .inl h1
         ·exact .inr (.inl h1)
         ·exact .inr (.inr ⟨oM, h2⟩)
        ·rintro (h1 | h1 | ⟨h1, h2⟩)
         ·exact .inl h1
         ·exact .inr (.inl h1)
         ·exact .inr (.inr ⟨oM, h2⟩)
     refine zS ?_
     refine Jf4 (b := r) (off := k) (v := .bool (Jp1 (RowP (lk E R) i j k ∨ k = j ∨ (k < k ∧ Ch (lk E R) j k)))) ek hr8 (Qb6 _ hkE) rfl rfl rfl rfl ?_
     refine zS ?_
     cases hv : Jp1 (RowP (lk E R) i j k ∨ k = j ∨ (k < k ∧ Ch (lk E R) j k)) with
     | true =>
      refine o_is true 6 false rfl rfl rfl rfl ?_
      refine zS ?_
      refine Zt (b := r) (off := k) (v := .bool true) (c := none) ek hr8 (by rw [Qh0]; exact hkE) ?_
      intro w9 hu9
      have hf := fin true (by rw [hv]; rfl) w9 hu9
      refine zS ?_
      exact ⟨k + 1, rfl, ⟨oM, oM, hf.1, hf.2⟩, oM⟩
     | false =>
      refine o_is false 6 false rfl rfl rfl rfl ?_
      refine zS ?_
      refine Zl (v := .slice (some ⟨bb, 0, none⟩) E.length E.length) rfl hB8.hdr ?_
      refine zS ?_
      refine Jf4 (b := bb) (off := j) (v := .slice (some ⟨rb j, 0, none⟩) E.length E.length) (by show Value.pointer (some ⟨bb, 0 + (j : Int).toNat, none⟩) = _; rw [Nat.zero_add, Int.toNat_natCast]) hR8.top (Qf4 rb hjE oM) rfl rfl rfl rfl ?_
      refine zS ?_
      refine Jf4 (b := rb j) (off := k) (v := .bool (befI E R j k)) (by show Value.pointer (some ⟨rb j, 0 + (k : Int).toNat, none⟩) = _; rw [Nat.zero_add, Int.toNat_natCast]) hrow (Qb6 _ hkE) rfl rfl rfl rfl ?_
      refine zS ?_
      refine Zt (b := r) (off := k) (v := .bool (befI E R j k)) (c := none) ek hr8 (by rw [Qh0]; exact hkE) ?_
      intro w9 hu9
      have hf := fin (befI E R j k) (by rw [hv]; rfl) w9 hu9
      refine zS ?_
      exact ⟨k + 1, rfl, ⟨oM, oM, hf.1, hf.2⟩, oM⟩
    ·have hkE : k = E.length := oM
     subst hkE
     refine zS ?_
     refine ⟨j + 1, rfl, ⟨oM, oM, ?_, k8⟩, oM⟩
     rw [Jq1 (g := fun x => Jp1 (RowP (lk E R) i j x ∨ x = j ∨ (x < E.length ∧ Ch (lk E R) j x))) fun x _ => Jm8 ?_]
     ·exact hr8
     ·rw [row_new hl]
      constructor
      ·rintro (h1 | h1 | h1)
       ·exact .inl h1
       ·exact .inr (.inl h1)
       ·exact .inr (.inr ⟨(ch_lt h1).2, h1⟩)
      ·rintro (h1 | h1 | ⟨_, h1⟩)
       ·exact .inl h1
       ·exact .inr (.inl h1)
       ·exact .inr (.inr h1)
  ·have hjE : j = E.length := oM
   subst hjE
   have hrow : Blk w5 r (bl (fun k => befI E R i k) E.length) 4 := by
    rw [Jq1 (g := fun k => Jp1 (RowP (lk E R) i E.length k)) fun x _ => ?_]
    ·exact hr5
    ·rw [Bool.eq_iff_iff, Ji4, Qc9, row_all]
   refine zS ?_
   refine Zl rfl hB5.hdr ?_
   refine zS ?_
   refine Zt (b := bb) (off := i) (v := .slice (some ⟨r, 0, none⟩) E.length E.length) (c := none) (by show Value.pointer (some ⟨bb, 0 + (i : Int).toNat, none⟩) = _; rw [Nat.zero_add, Int.toNat_natCast]) hR5.top (by rw [Qj2]; exact hiE) ?_
   intro w6 hu6
   have k6 : Kp [bb] w5 w6 := hu6.kp _ (.inl sI)
   have hT6 := hu6.blk
   rw [rowsV_set rb hiE] at hT6
   have z5 := k5.size
   refine zS ?_
   refine ⟨(i, fun k => if k = i then r else rb k), rfl, ⟨by dsimp only; omega, ⟨hT6, fun k h1 h2 => ?_⟩, ?_, fun k h1 h2 => ?_⟩, by dsimp only; omega⟩
   ·dsimp only
    by_cases q : k = i
    ·subst q
     rw [if_pos rfl]
     exact ⟨k6.blk (by simp; omega) hrow, oM⟩
    ·rw [if_neg q]
     have := hR5.row k (by dsimp only at h1; omega) h2
     exact ⟨k6.blk (by simpa using this.2) this.1, this.2⟩
   ·have q1 : Kp [bb] w2 w4 := kc.trans (k4.mono sI)
    exact (q1.sinceS k5 (fun b hb => by simp at hb; subst hb; exact .inr oM)).trans k6
   ·dsimp only at h1 ⊢
    by_cases q : k = i
    ·rw [if_pos q]; omega
    ·rw [if_neg q]; exact hrb k oM h2
 ·have hm0 : m = 0 := oM
  subst hm0
  refine zS ?_
  refine ⟨_, rfl, rfl, .slice (some ⟨bb, 0, none⟩) E.length E.length, ⟨hBc, bb, rb, rfl, hR⟩, ?_, bb, rb, rfl, hR, oM, fun k hk => by have := hrb k oM hk; omega⟩
  exact ((k1.mono sI).trans k2).sinceS kc (fun b hb => by simp at hb; subst hb; exact .inr oM)
end
end
section
variable {w : World}
section
variable {g : RrG} {E : List Ev} {R : List Int}
theorem rHappens_ret (h : RrAt w g E R) (i j : Int) : Ret Tryz.prog 153 [ptr g.p, I i, I j] w (fun v w' => v = .bool (befI E R i j) ∧ w' = w) := by
 have hsm := h.small
 have hno : ¬ (0 ≤ i ∧ i < E.length) ∨ ¬ (0 ≤ j ∧ j < E.length) → befI E R i j = false := fun q => by
  rw [Bool.eq_false_iff]
  intro hb
  have := Jv9 hb; omega
 refine Ze Tryz.call153 Tryz.func153 ?_
 refine zS ?_
 refine Zc (Qa1 h.toRrB i) ?_
 rintro v w1 ⟨rfl, rfl⟩
 refine zS ?_
 by_cases hi : 0 ≤ i ∧ i < E.length
 rotate_left
 ·refine o_is false 3 true rfl rfl rfl (decide_eq_false hi) ?_
  refine zS ?_
  exact ⟨_, rfl, by rw [hno (.inl hi)], rfl⟩
 refine o_is true 3 true rfl rfl rfl (decide_eq_true hi) ?_
 refine zS ?_
 refine Zc (Qa1 h.toRrB j) ?_
 rintro v w1 ⟨rfl, rfl⟩
 refine zS ?_
 by_cases hj : 0 ≤ j ∧ j < E.length
 rotate_left
 ·refine o_is false 8 true rfl rfl rfl (decide_eq_false hj) ?_
  refine zS ?_
  exact ⟨_, rfl, by rw [hno (.inr hj)], rfl⟩
 refine o_is true 8 true rfl rfl rfl (decide_eq_true hj) ?_
 obtain ⟨bb, rb, hbv, hR⟩ := h.rows
 have hh := h.hdr
 rw [hbv] at hh
 have hrow := (hR.row i.toNat oM oM).1
 have ei : ((i.toNat : Nat) : Int) = i := oM
 have ej : ((j.toNat : Nat) : Int) = j := oM
 refine zS ?_
 refine Zl (v := .slice (some ⟨bb, 0, none⟩) E.length E.length) rfl hh ?_
 refine zS ?_
 refine Jf4 (b := bb) (off := i.toNat) (v := .slice (some ⟨rb i.toNat, 0, none⟩) E.length E.length) (by show Value.pointer (some ⟨bb, 0 + i.toNat, none⟩) = _; rw [Nat.zero_add]) hR.top (Qf4 rb oM oM) rfl rfl rfl rfl ?_
 refine zS ?_
 refine Jf4 (b := rb i.toNat) (off := j.toNat) (v := .bool (befI E R i j)) (by show Value.pointer (some ⟨rb i.toNat, 0 + j.toNat, none⟩) = _; rw [Nat.zero_add]) hrow (by rw [Qb6 _ oM, ei, ej]) rfl rfl rfl rfl ?_
 refine zS ?_
 exact ⟨_, rfl, rfl, rfl⟩
end
theorem r20New_ret {s : Shp} {l : List Ev} {pad ead : Option Addr} {cap ecap : Nat} (hr : Ja7 w pad (s.pa.map I)) (hpl : s.pa.length ≤ 1048576) (he : Ja7 w ead (evsC l)) (hl : l.length ≤ 1048576) :
  Ret Tryz.prog 21 [.agg ⟨shC s pad cap⟩, .slice ead l.length ecap] w (fun v w' =>
   (∃ e, badO s l e ∧ v = .tuple #[.pointer none, I e] ∧ Kp [] w w') ∨
   (Jf2 s = true ∧ l.length ≤ 2048 ∧ okTo s l l.length ∧ ∃ g, v = .tuple #[ptr g.p, I 0] ∧ RrAt w' g l (rnds s l l.length) ∧ Kp [] w w' ∧ RrFar w.heap.size w' g l (rnds s l l.length))) := by
 have hel := Jt5 l
 refine Ze Tryz.call21 Tryz.func21 ?_
 refine zS ?_
 refine Zx ?_
 intro bx w1 hbx hu1
 have hB1 : Blk w1 bx (shC s pad cap) 27 := hu1.blk
 have k1 : Kp [] w w1 := hu1.new oM
 refine zS ?_
 refine Zm (vs := shC s pad cap) rfl (fun j v hv => ?_) ?_
 ·rw [Nat.zero_add]; exact hB1.cell hv
 refine zS ?_
 refine Zc (Qm6 (hr.kp k1 sI) hpl) ?_
 rintro v w1' ⟨rfl, k1'⟩
 have hB1' := k1'.b0 hB1
 have k01 := k1.trans k1'
 cases hs : Jf2 s with
 | false =>
  simp only [Bool.false_eq_true, if_false]
  refine zS ?_
  exact ⟨_, rfl, .inl ⟨5, .inl ⟨rfl, hs⟩, rfl, k01⟩⟩
 | true =>
 simp only [if_true]
 refine zS ?_
 refine r_if rfl (fun hlong => ?_) (fun hlong => ?_)
 ·refine zS ?_
  exact ⟨_, rfl, .inl ⟨3, .inr (.inl ⟨rfl, hs, oM⟩), rfl, k01⟩⟩
 have hn : l.length ≤ 2048 := oM
 refine zS ?_
 refine Zm (vs := shC s pad cap) rfl (fun j v hv => ?_) ?_
 ·rw [Nat.zero_add]; exact hB1'.cell hv
 refine zS ?_
 refine Zc (rNew_ret (hr.kp k01 sI) hpl) ?_
 rintro v w2 (⟨hs2, _⟩ | ⟨_, gc, rfl, hck2, k2, hn2⟩)
 ·rw [hs] at hs2; cases hs2
 have k02 := k01.trans k2
 refine zS ?_
 refine Zb [.slice none 0 0, .slice none 0 0, .slice none 0 0] ?_
 refine Zx ?_
 intro op w4 hop hu4
 have k4 : Kp [] w2 w4 := hu4.new oM
 have hO4 : Blk w4 op [.slice none 0 0, .slice none 0 0, .slice none 0 0] 128 := hu4.blk
 have k04 := k02.trans k4
 have hckF : ∀ b, b ∈ gc.F → b < w2.heap.size := hck2.toRM.lt
 have z2 := k02.size
 have z4 := hO4.lt
 have hck4 := hck2.kp0 k4
 refine zS ?_
 refine Jb4 (α := Nat) [1, 6, 8, 9] (fun i => [.slice ead l.length ecap, ptr gc.p, ptr op, I i])
  (fun i wc => i ≤ l.length ∧ okTo s l i ∧ RAt wc gc s (runC s l i) ∧ Kp [] w wc ∧ w4.heap.size ≤ wc.heap.size ∧ ∃ xad xcap rad rcap, Blk wc op [.slice xad i xcap, .slice rad i rcap, .slice none 0 0] 128 ∧ OwnS wc 86 3 xad i xcap (evsC (l.take i)) ∧ OwnS wc 3 1 rad i rcap ((rnds s l i).map I) ∧ (∀ b, b ∈ Ja1 xad → w4.heap.size ≤ b ∧ b ∉ Ja1 rad) ∧ ∀ b, b ∈ Ja1 rad → w4.heap.size ≤ b)
  (fun i => l.length - i) 0 rfl ⟨oM, fun j x hj => oM, hck4, k04, lR, none, 0, none, 0, hO4, Jd6 _ _ _, Jd6 _ _ _, by simp [Ja1], by simp [Ja1]⟩ ?_
 rintro i e wc ⟨hi, hok, hck, kc, hzc, xad, xcap, rad, rcap, hO, hX, hR, hXn, hRn⟩
 refine zS ?_
 refine r_if rfl (fun hc => ?_) (fun hc => ?_)
 ·have hlt : i < l.length := oM
  obtain ⟨x, hx⟩ : ∃ x, l[i]? = some x := ⟨_, List.getElem?_eq_getElem hlt⟩
  obtain ⟨b0, off0, rfl, hb0, hcell⟩ := he.at_ (by rw [hel]; omega)
  have hwc := hO.lt
  refine zS ?_
  refine Zm (b := b0) (off := off0 + i * 3) (vs := evC x) rfl (fun j v hv => ?_) ?_
  ·rw [Nat.add_assoc, ← hcell _ _ (Jq0 hx j v hv)]
   exact World.cell?_of_block (kc.at_ b0 hb0 sI)
  refine zS ?_
  refine Za ?_
  intro be w5 hbe hu5
  refine Zs (cs := evC x) rfl hu5.blk lR rfl (by simp [Value.oneCell']) ?_
  intro w6 hu6
  have k6 : Kp [] wc w6 := (hu5.new oM).since (hu6.kp [be] (.inl sI)) (by simp; omega)
  have hBe : Blk w6 be (evC x) 86 := hu6.blk
  have hbe6 := hBe.lt
  have hck6 := hck.kp0 k6
  have hO6 := k6.b0 hO
  refine zS ?_
  refine Zm (vs := evC x) rfl hBe.cs ?_
  refine zS ?_
  refine Zc (Qd4 hck6 x) ?_
  rintro v w7 ⟨rfl, k7⟩
  have hBe7 := k7.b0 hBe
  have hck7 := hck6.kp0 k7
  refine zS ?_
  have hn7 := runC_n (s := s) (l := l) i hi
  cases hcan : canB s (runC s l i) x with
  | false =>
   refine zS ?_
   refine Zm (vs := evC x) rfl hBe7.cs ?_
   refine zS ?_
   refine Zc (Qd4 hck7 x) ?_
   rintro v w8 ⟨rfl, k8⟩
   have hBe8 := k8.b0 hBe7
   have hck8 := hck7.kp0 k8
   rw [hcan]
   refine zS ?_
   refine Zm (vs := evC x) rfl hBe8.cs ?_
   refine zS ?_
   refine Zc (rNext_ret hck8 x oM) ?_
   rintro v w9 (⟨hcan2, _⟩ | ⟨_, rfl, k9⟩)
   ·rw [hcan] at hcan2; cases hcan2
   refine zS ?_
   refine ⟨_, rfl, .inl ⟨6, .inr (.inr ⟨rfl, hs, hn, fun hall => ?_⟩), rfl, (((kc.trans k6).trans k7).trans k8).trans k9⟩⟩
   have := hall i x hlt hx
   rw [hcan] at this; cases this
  | true =>
  refine zS ?_
  refine Zl (b := be) (off := 0) (v := I x.k) rfl hBe7 ?_
  refine zS ?_
  refine Jd8 (α := Int) [1, 6, 8, 9, 10, 11] (fun r => [.slice (some ⟨b0, off0, none⟩) l.length ecap, ptr gc.p, ptr op, I i, ptr be, I r]) (fun r w' => r = (if x.k = 9 then (opIn (runC s l i) x.o).1 else 0) ∧ Kp [] w7 w') ?_ ?_
  ·refine r_if rfl (fun h9 => ?_) (fun h9 => ?_)
   ·refine zS ?_
    refine Zl (b := be) (off := 2) (v := I x.o) rfl hBe7 ?_
    refine zS ?_
    refine Zc (rRound_ret hck7 x.o) ?_
    rintro v w8 ⟨rfl, k8⟩
    refine zS ?_
    refine Za ?_
    intro bo w9 hbo hu9
    refine Zs (cs := opC2 (opIn (runC s l i) x.o)) rfl hu9.blk lR rfl (by simp [Value.oneCell']) ?_
    intro w10 hu10
    have k10 : Kp [] w8 w10 := (hu9.new oM).since (hu10.kp [bo] (.inl sI)) (by simp; omega)
    have hBo : Blk w10 bo (opC2 (opIn (runC s l i) x.o)) 131 := hu10.blk
    refine zS ?_
    refine Zl (b := bo) (off := 0) (v := I (opIn (runC s l i) x.o).1) rfl hBo ?_
    refine zS ?_
    exact ⟨_, rfl, by rw [if_pos h9], k8.trans k10⟩
   ·refine zS ?_
    exact ⟨0, rfl, by rw [if_neg h9], Kp.refl _ _⟩
  rintro r e w8 ⟨hr8, k8⟩
  have hBe8 := k8.b0 hBe7
  have hck8 := hck7.kp0 k8
  refine zS ?_
  refine Zm (vs := evC x) rfl hBe8.cs ?_
  refine zS ?_
  refine Zc (Qd4 hck8 x) ?_
  rintro v w9 ⟨rfl, k9⟩
  have hBe9 := k9.b0 hBe8
  have hck9 := hck8.kp0 k9
  rw [hcan]
  refine zS ?_
  refine Zl (b := be) (off := 0) (v := I x.k) rfl hBe9 ?_
  refine zS ?_
  refine Jd8 (α := Int) [1, 6, 8, 9, 10, 11] (fun r => [.slice (some ⟨b0, off0, none⟩) l.length ecap, ptr gc.p, ptr op, I i, ptr be, I r]) (fun r w' => r = rnd (runC s l i) x ∧ Kp [] w9 w') ?_ ?_
  ·refine r_if rfl (fun h10 => ?_) (fun h10 => ?_)
   ·refine zS ?_
    refine Zl (b := be) (off := 1) (v := I x.t) rfl hBe9 ?_
    refine zS ?_
    refine Zc (rStand_ret hck9 x.t) ?_
    rintro v w10 ⟨rfl, k10⟩
    refine zS ?_
    refine Za ?_
    intro bo w11 hbo hu11
    refine Zs (cs := stdC (st (runC s l i) x.t)) rfl hu11.blk lR rfl (by simp [Value.oneCell']) ?_
    intro w12 hu12
    have k12 : Kp [] w10 w12 := (hu11.new oM).since (hu12.kp [bo] (.inl sI)) (by simp; omega)
    have hBo : Blk w12 bo (stdC (st (runC s l i) x.t)) 136 := hu12.blk
    refine zS ?_
    refine Zl (b := bo) (off := 2) (v := I (st (runC s l i) x.t).ro) rfl hBo ?_
    refine zS ?_
    exact ⟨_, rfl, by unfold rnd; rw [if_pos h10], k10.trans k12⟩
   ·refine zS ?_
    exact ⟨r, rfl, by unfold rnd; rw [if_neg h10]; exact hr8, Kp.refl _ _⟩
  rintro r2 e w10 ⟨rfl, k10⟩
  have hBe10 := k10.b0 hBe9
  have hck10 := hck9.kp0 k10
  have k610 := ((k7.trans k8).trans k9).trans k10
  refine zS ?_
  refine Zm (vs := evC x) rfl hBe10.cs ?_
  refine zS ?_
  refine Zc (rNext_ret hck10 x oM) ?_
  rintro v w12 (⟨_, rfl, hck12, k12⟩ | ⟨hcan2, _⟩)
  rotate_left
  ·rw [hcan] at hcan2; cases hcan2
  have k12 : Kp gc.F w10 w12 := k12.mono (fun b hb => RG.W_F hb)
  have hopF : op ∉ gc.F := fun hb => by have := hckF op hb; omega
  have hbeF : be ∉ gc.F := fun hb => by have := hckF be hb; omega
  have hO12 := k12.blk hopF (k610.b0 hO6)
  have hBe12 := k12.blk hbeF hBe10
  have hcn : ∀ b, b ∈ gc.F → w.heap.size ≤ b := fun b hb => by have := hn2 b hb; have := k01.size; omega
  have k12w : Kp [] w w12 := ((kc.trans k6).trans k610).since k12 hcn
  have hX12 : OwnS w12 86 3 xad i xcap (evsC (l.take i)) := ((hX.kp k6 sI).kp k610 sI).kp k12 (fun b hb hb2 => by have := (hXn b hb).1; have := hckF b hb2; omega)
  have hR12 : OwnS w12 3 1 rad i rcap ((rnds s l i).map I) := ((hR.kp k6 sI).kp k610 sI).kp k12 (fun b hb hb2 => by have := hRn b hb; have := hckF b hb2; omega)
  have z12 : w4.heap.size ≤ w12.heap.size := by have := k6.size; have := k610.size; have := k12.size; omega
  refine zS ?_
  refine Ja9 ?_
  refine Jd8 (α := Option Addr × Nat) [1, 6, 8, 9, 10, 11] (fun _ => [.slice (some ⟨b0, off0, none⟩) l.length ecap, ptr gc.p, ptr op, I i, ptr be, I (rnd (runC s l i) x)]) (fun y w' => Blk w' op [.slice y.1 (i + 1) y.2, .slice rad i rcap, .slice none 0 0] 128 ∧ OwnS w' 86 3 y.1 (i + 1) y.2 (evsC (l.take (i + 1))) ∧ Kp (op :: Ja1 xad) w12 w' ∧ ∀ b, b ∈ Ja1 y.1 → b ∈ Ja1 xad ∨ w12.heap.size ≤ b) ?_ ?_
  ·refine Jo6 (fun w' => Kp (Ja1 xad) w12 w') [(0, false), (1, false), (2, false), (3, false), (4, false), (5, false), (6, true), (7, true), (8, false), (9, false), (10, true)] Ja0 kR kR kR ((Sm.drew w12).kp _) ?_
   have kd := (Sm.drew w12).kp (Ja1 xad)
   have kd0 := (Sm.drew w12).kp []
   generalize ({ w12 with drawn := w12.drawn + 1 } : World) = wd at kd kd0 ⊢
   have hopx : op ∉ Ja1 xad := fun hb => by have := (hXn _ hb).1; omega
   have hbex : be ∉ Ja1 xad := fun hb => by have := hX.lt be hb; omega
   refine zX ?_
   refine Zy (v := .slice xad i xcap) rfl rfl (fun w' h' => (h'.blk hopx hO12).cell rfl) ?_
   refine zX ?_
   refine Zz (vs := evC x) rfl rfl (fun w' h' j v hv => by rw [Nat.zero_add]; exact (h'.blk hbex hBe12).cell hv) ?_
   refine zX ?_
   refine Jh2 rfl ?_
   refine Zn (evC x) rfl rfl rfl kR ?_
   intro b13 w13 hb13 hu13
   have k13 : Kp [] wd w13 := hu13.new oM
   have kd13 := kd.trans (k13.mono sI)
   refine Ja6 ⟨.inr kd13, ?_⟩
   refine Jh2 rfl ?_
   refine Jo0 (evC x) rfl rfl ((hX12.kp kd0 sI).kp k13 sI) (fun j v hv => by rw [Jc1, Nat.zero_add]; exact hu13.blk.cell hv) rfl rfl rfl oM rfl oM (by simp [Value.oneCell']) (by simp only [maxLen]; omega) oM rfl rfl ?_
   intro ad14 cap14 w14 ho14 k14 hn14
   refine Ja6 ⟨.inr (kd13.trans k14), ?_⟩
   refine zX ?_
   refine Jh2 rfl ?_
   have hO14 := (kd13.trans k14).blk hopx hO12
   refine Zt (b := op) (off := 0) (v := .slice ad14 (i + 1) cap14) (c := none) rfl hO14 sI ?_
   intro w15 hu15
   refine Ja6 ⟨.inl kR, ?_⟩
   refine zX ?_
   have hadn : ∀ b, b ∈ Ja1 ad14 → b ∈ Ja1 xad ∨ w12.heap.size ≤ b := fun b hb => by
    rcases hn14 b hb with q | q
    ·exact .inl q
    ·right; have := kd.size; have := k13.size; omega
   have hopa : op ∉ Ja1 ad14 := fun hb => by
    rcases hadn op hb with q | q
    ·exact hopx q
    ·omega
   have htk : l.take (i + 1) = l.take i ++ [x] := by rw [List.take_add_one, hx]; rfl
   refine ⟨(ad14, cap14), rfl, hu15.blk, ?_, ?_, hadn⟩
   ·have e1 : evsC (l.take (i + 1)) = evsC (l.take i) ++ evC x := by rw [htk]; unfold evsC; rw [List.flatMap_append]; simp
    rw [e1]
    exact ho14.upd hu15 hopa
   ·exact ((kd13.trans k14).mono (fun b hb => by simp [hb])).trans (hu15.kp _ (.inl sI))
  rintro ⟨xad2, xcap2⟩ e w15 ⟨hO15, hX15, k15, hx15⟩
  dsimp only at hO15 hX15 hx15
  have hXn2 : ∀ b, b ∈ Ja1 xad2 → w4.heap.size ≤ b ∧ b ∉ Ja1 rad := fun b hb => by
   rcases hx15 b hb with q | q
   ·exact hXn b q
   ·exact ⟨oM, fun hb2 => by have := hR12.lt b hb2; omega⟩
  have hR15 : OwnS w15 3 1 rad i rcap ((rnds s l i).map I) := hR12.kp k15 (fun b hb hb2 => by
   rcases List.mem_cons.1 hb2 with rfl | q
   ·have := hRn _ hb; omega
   ·exact (hXn b q).2 hb)
  have hck15 := hck12.kp k15 (fun b hb hb2 => by
   rcases List.mem_cons.1 hb2 with rfl | q
   ·exact hopF hb
   ·have := (hXn b q).1; have := hckF b hb; omega)
  have kw15 : Kp [] w w15 := k12w.since k15 (fun b hb => by
   have := kc.size
   rcases List.mem_cons.1 hb with rfl | q
   ·omega
   ·have := (hXn b q).1; have := k04.size; omega)
  refine zS ?_
  refine Zl (v := .slice rad i rcap) rfl hO15 ?_
  refine zS ?_
  refine Zu [I (rnd (runC s l i) x)] rfl (by simp [Value.oneCell']) rfl dE dE ?_
  intro b16 w16 hb16 hu16
  have k16 : Kp [] w15 w16 := hu16.new oM
  refine Jh3 rfl rfl (hR15.kp k16 sI) hu16.blk rfl rfl rfl rfl (by simp only [maxLen]; omega) oM rfl rfl ?_
  intro ad17 cap17 w17 ho17 k17 hn17
  have hO17 := k17.blk (fun hb => by have := hRn op hb; omega) (k16.b0 hO15)
  refine zS ?_
  refine Zt (b := op) (off := 1) (v := .slice ad17 (i + 1) cap17) (c := none) rfl hO17 sI ?_
  intro w18 hu18
  have k18 : Kp [op] w17 w18 := hu18.kp _ (.inl sI)
  have z15 := k15.size
  have z16 := k16.size
  have hn17' : ∀ b, b ∈ Ja1 ad17 → w4.heap.size ≤ b := fun b hb => by
   rcases hn17 b hb with q | q
   ·exact hRn b q
   ·omega
  refine zS ?_
  refine ⟨i + 1, rfl, ⟨oM, fun j y hj hy => ?_, ?_, ?_, ?_, xad2, xcap2, ad17, cap17, hu18.blk, ?_, ?_, fun b hb => ⟨(hXn2 b hb).1, fun hb2 => ?_⟩, hn17'⟩, oM⟩
  ·by_cases hji : j = i
   ·subst hji; rw [hx] at hy; cases hy; exact hcan
   ·exact hok j y oM hy
  ·rw [Qh3 hx]
   exact ((hck15.kp0 k16).kp k17 (fun b hb hb2 => by have := hckF b hb; have := hRn b hb2; omega)).kp k18 (fun b hb hb2 => by simp at hb2; subst hb2; exact hopF hb)
  ·exact ((kw15.trans k16).since k17 (fun b hb => by have := hRn b hb; have := k04.size; omega)).since k18 (fun b hb => by simp at hb; omega)
  ·have := k17.size; have := k18.size; omega
  ·exact ((hX15.kp k16 sI).kp k17 (fun b hb => (hXn2 b hb).2)).kp k18 (fun b hb hb2 => by simp at hb2; have := (hXn2 b hb).1; omega)
  ·rw [rnds_succ hx, List.map_append]
   exact ho17.kp k18 (fun b hb hb2 => by simp at hb2; have := hn17' b hb; omega)
  ·rcases hn17 b hb2 with q | q
   ·exact (hXn2 b hb).2 q
   ·have := hX15.lt b hb; omega
 ·have hin : i = l.length := oM
  subst hin
  rw [List.take_length] at hX
  have hB : RrB wc ⟨op, xad, xcap, rad, rcap, .slice none 0 0⟩ l (rnds s l l.length) := ⟨by rw [Qd3]; exact hO, hX.readN, hR.read, Qd3 _ _ _, hn⟩
  have hwc := hO.lt
  refine zS ?_
  refine Zc (rclose_ret hB (fun b hb => ?_) (fun hb => ?_)) ?_
  ·simp only [List.mem_cons, List.mem_append] at hb
   rcases hb with rfl | hb | hb
   ·exact hwc
   ·exact hX.lt b hb
   ·exact hR.lt b hb
  ·rcases List.mem_append.1 hb with hb | hb
   ·have := (hXn _ hb).1; dsimp only at this; omega
   ·have := hRn _ hb; dsimp only at this; omega
  rintro v w5 ⟨rfl, bv, h5, k5, h6⟩
  refine zS ?_
  refine ⟨_, rfl, .inr ⟨trivial, hn, hok, _, rfl, h5, kc.since k5 (fun b hb => by simp at hb; omega), h5.toRrB, fun b hb => ?_, ?_⟩⟩
  ·have := k04.size
   simp only [List.mem_cons, List.mem_append] at hb
   rcases hb with q | hb | hb
   ·omega
   ·have := (hXn b hb).1; omega
   ·have := hRn b hb; omega
  ·obtain ⟨bb, rb, e1, e2, e3, e4⟩ := h6
   have := kc.size
   exact ⟨bb, rb, e1, e2, oM, fun k hk => by have := e4 k hk; omega⟩
end
end Go.Vc
