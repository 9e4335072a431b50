/- abreastref20: close. -/
import Derived.Test.YtkgngbpkiklckaaGreatDoorQClQRaces45
namespace Go.Vc
open Go Go.Proofs
set_option maxRecDepth 10000
variable {w : World}
def RowP (L : Nat → Nat → Prop) (i j k : Nat) : Prop := ∃ j', j' < j ∧ L i j' ∧ (k = j' ∨ Ch L j' k)
section
variable {g : RrG} {E : List Ev} {R : List Int}
theorem row_skip {L : Nat → Nat → Prop} {i j k : Nat} (h : ¬ L i j) : RowP L i (j + 1) k ↔ RowP L i j k := by
  constructor
  · rintro ⟨j', h1, h2, h3⟩
    by_cases q : j' = j
    · subst q; exact absurd h2 h
    · exact ⟨j', by omega, h2, h3⟩
  · rintro ⟨j', h1, h2, h3⟩; exact ⟨j', by omega, h2, h3⟩
theorem row_met {L : Nat → Nat → Prop} {i j k : Nat} (h : RowP L i j j) : RowP L i (j + 1) k ↔ RowP L i j k := by
  constructor
  · rintro ⟨j', h1, h2, h3⟩
    by_cases q : j' = j
    · subst q
      obtain ⟨a, a1, a2, a3⟩ := h
      refine ⟨a, a1, a2, .inr ?_⟩
      have hc : Ch L a j' := by
        rcases a3 with q | q
        · omega
        · exact q
      rcases h3 with q | q
      · subst q; exact hc
      · exact hc.trans q
    · exact ⟨j', by omega, h2, h3⟩
  · rintro ⟨j', h1, h2, h3⟩; exact ⟨j', by omega, h2, h3⟩
theorem row_new {L : Nat → Nat → Prop} {i j k : Nat} (h : L i j) : RowP L i (j + 1) k ↔ (RowP L i j k ∨ k = j ∨ Ch L j k) := by
  constructor
  · rintro ⟨j', h1, h2, h3⟩
    by_cases q : j' = j
    · subst q; exact .inr h3
    · exact .inl ⟨j', by omega, h2, h3⟩
  · rintro (⟨j', h1, h2, h3⟩ | q)
    · exact ⟨j', by omega, h2, h3⟩
    · exact ⟨j, by omega, h, q⟩
theorem row_all {i k : Nat} : RowP (lk E R) i E.length k ↔ Ch (lk E R) i k := by
  constructor
  · rintro ⟨j', _, h2, rfl | h3⟩
    · exact .one h2
    · exact .more h2 h3
  · intro h
    cases h with
    | one h => exact ⟨k, (lk_lt h).2, h, .inl rfl⟩
    | more h1 h2 => exact ⟨_, (lk_lt h1).2, h1, .inr h2⟩
/-- the rows of an order: from the m-th on -/
def rowsV (n m : Nat) (rb : Nat → Nat) : List Value := (List.range n).map fun k => if m ≤ k then .slice (some ⟨rb k, 0, none⟩) n n else .slice none 0 0
theorem rowsV_len (n m : Nat) (rb : Nat → Nat) : (rowsV n m rb).length = n := by simp [rowsV]
theorem rowsV_get {n m : Nat} (rb : Nat → Nat) {k : Nat} (hk : k < n) (hm : m ≤ k) : (rowsV n m rb)[k]? = some (.slice (some ⟨rb k, 0, none⟩) n n) := by
  unfold rowsV; rw [List.getElem?_map, List.getElem?_range hk]; simp [hm]
theorem rowsV_set {n m r : Nat} (rb : Nat → Nat) (hm : m < n) : (rowsV n (m + 1) rb).set m (.slice (some ⟨r, 0, none⟩) n n) = rowsV n m (fun k => if k = m then r else rb k) := by
  apply List.ext_getElem?
  intro k
  by_cases hk : k < n
  · unfold rowsV
    rw [List.getElem?_set]
    by_cases q : m = k
    · subst q; rw [if_pos rfl, if_pos (by simp; omega), List.getElem?_map, List.getElem?_range hk]; simp
    · rw [if_neg q, List.getElem?_map, List.getElem?_map, List.getElem?_range hk]
      simp only [Option.map_some]
      by_cases q2 : m + 1 ≤ k
      · rw [if_pos q2, if_pos (by omega), if_neg (fun e => q e.symm)]
      · rw [if_neg q2, if_neg (by omega)]
  · rw [List.getElem?_eq_none (by rw [List.length_set, rowsV_len]; omega), List.getElem?_eq_none (by rw [rowsV_len]; omega)]
structure BRows (w : World) (bb : Nat) (E : List Ev) (R : List Int) (m : Nat) (rb : Nat → Nat) : Prop where
  top : Blk w bb (rowsV E.length m rb) 211
  row : ∀ k, m ≤ k → k < E.length → Blk w (rb k) (bl (fun j => befI E R k j) E.length) 4 ∧ rb k ≠ bb
theorem BRows.kp {w' : World} {bb m : Nat} {rb : Nat → Nat} {S : List Nat} (h : BRows w bb E R m rb) (hk : Kp S w w') (hb : bb ∉ S) (hr : ∀ k, m ≤ k → k < E.length → rb k ∉ S) : BRows w' bb E R m rb :=
  ⟨hk.blk hb h.top, fun k h1 h2 => ⟨hk.blk (hr k h1 h2) (h.row k h1 h2).1, (h.row k h1 h2).2⟩⟩
theorem BRows.kp0 {w' : World} {bb m : Nat} {rb : Nat → Nat} (h : BRows w bb E R m rb) (hk : Kp [] w w') : BRows w' bb E R m rb := h.kp hk (by simp) (by simp)
structure RrAt (w : World) (g : RrG) (E : List Ev) (R : List Int) : Prop extends RrB w g E R where
  rows : ∃ bb rb, g.bv = .slice (some ⟨bb, 0, none⟩) E.length E.length ∧ BRows w bb E R 0 rb
theorem RrAt.kp0 {w' : World} (h : RrAt w g E R) (hk : Kp [] w w') : RrAt w' g E R := ⟨h.toRrB.kp0 hk, by obtain ⟨bb, rb, h1, h2⟩ := h.rows; exact ⟨bb, rb, h1, h2.kp0 hk⟩⟩
/-- the rows, all at n or behind -/
def RowsN (n : Nat) (w : World) (bv : Value) (E : List Ev) (R : List Int) : Prop := ∃ bb rb, bv = .slice (some ⟨bb, 0, none⟩) E.length E.length ∧ BRows w bb E R 0 rb ∧ n ≤ bb ∧ ∀ k, k < E.length → n ≤ rb k
/-- an order whose blocks all lie at n or behind -/
structure RrFar (n : Nat) (w : World) (g : RrG) (E : List Ev) (R : List Int) : Prop extends RrB w g E R where
  far : ∀ b, b ∈ g.p :: (blkOf g.ead ++ blkOf g.rad) → n ≤ b
  rowsN : RowsN n w g.bv E R
theorem RrFar.at_ {n : Nat} (h : RrFar n w g E R) : RrAt w g E R := ⟨h.toRrB, by obtain ⟨bb, rb, h1, h2, _⟩ := h.rowsN; exact ⟨bb, rb, h1, h2⟩⟩
theorem RrFar.kp {n : Nat} {w' : World} {S : List Nat} (h : RrFar n w g E R) (hk : Kp S w w') (hS : ∀ b, b ∈ S → b < n) : RrFar n w' g E R :=
  ⟨h.toRrB.kp hk (fun b hb hb2 => by have := h.far b hb; have := hS b hb2; omega), h.far, by
    obtain ⟨bb, rb, h1, h2, h3, h4⟩ := h.rowsN
    exact ⟨bb, rb, h1, h2.kp hk (fun hb => by have := hS _ hb; omega) (fun k _ hk2 hb => by have := hS _ hb; have := h4 k hk2; omega), h3, h4⟩⟩
set_option maxHeartbeats 6400000 in
theorem rclose_ret (h : RrB w g E R) (hw : ∀ b, b ∈ g.p :: (blkOf g.ead ++ blkOf g.rad) → b < w.heap.size) (hp : g.p ∉ blkOf g.ead ++ blkOf g.rad) : Ret Tryz.prog 55 [ptr g.p] w (fun v w' => v = .tuple #[] ∧ ∃ bv, RrAt w' { g with bv := bv } E R ∧ Kp [g.p] w w' ∧ RowsN w.heap.size w' bv E R) := by
  have hsm := h.small
  refine enter Tryz.call55 Tryz.func55 rfl rfl rfl rfl ?_
  (repeat first|refine zA ?_|refine zg ?_|refine zo rfl rfl trivial ?_)
  refine o_load rfl h.hdr rfl rfl rfl rfl rfl ?_
  (repeat first|refine zA ?_|refine zg ?_|refine zo rfl rfl trivial ?_|refine zn ?_)
  refine o_makeN (len := (E.length : Int)) (cap := (E.length : Int)) (kl := .i64) (kc := .i64) rfl rfl rfl rfl rfl (by omega) (by omega) (by omega) (by omega) rfl rfl ?_
  intro bb w1 hbb hu1
  rw [Int.toNat_natCast] at hu1 ⊢
  have k1 : Kp [] w w1 := hu1.kp [] (.inr (by omega))
  (repeat refine zo rfl rfl trivial ?_)
  refine o_store (b := g.p) (off := 2) (v := .slice (some ⟨bb, 0, none⟩) E.length E.length) (c := none) rfl (k1.blk (by simp) h.hdr) (by simp) rfl rfl rfl rfl rfl rfl ?_
  intro w2 hu2
  have k2 : Kp [g.p] w1 w2 := hu2.kp _ (.inl (by simp))
  have hgp := hw g.p (by simp)
  have hB2 : RrB w2 { g with bv := .slice (some ⟨bb, 0, none⟩) E.length E.length } E R :=
    ⟨hu2.blk, (h.ev.kp k1 (by simp)).kp k2 (fun b hb hb2 => by simp at hb2; subst hb2; exact hp (List.mem_append_left _ hb)), (h.ro.kp k1 (by simp)).kp k2 (fun b hb hb2 => by simp at hb2; subst hb2; exact hp (List.mem_append_right _ hb)), h.lr, h.small⟩
  have hT2 : Blk w2 bb (rowsV E.length E.length (fun _ => 0)) 211 := by
    have := k2.blk (b := bb) (by simp; omega) hu1.blk
    have e : (List.replicate E.length [Value.slice none 0 0]).flatten = rowsV E.length E.length (fun _ => 0) := by
      apply List.ext_getElem?
      intro k
      have : (List.replicate E.length [Value.slice none 0 0]).flatten = List.replicate E.length (Value.slice none 0 0) := by simp
      rw [this, List.getElem?_replicate]
      unfold rowsV
      rw [List.getElem?_map]
      by_cases hk : k < E.length
      · rw [if_pos hk, List.getElem?_range hk]; simp; omega
      · rw [if_neg hk, List.getElem?_eq_none (by simp; omega)]; rfl
    rw [← e]; exact this
  have z1 := k1.size
  have z1' := hu1.lt
  have z2 := k2.size
  (repeat first|refine zA ?_|refine zg ?_|refine zo rfl rfl (by first|exact trivial|(simp only[AllP];omega)) ?_|refine zn ?_|refine zb ?_)
  refine r_loop (α := Nat × (Nat → Nat)) [0, 2, 3] (fun x => [ptr g.p, I E.length, I ((x.1 : Int) - 1)]) (fun x wc => x.1 ≤ E.length ∧ BRows wc bb E R x.1 x.2 ∧ Kp [bb] w2 wc ∧ ∀ k, x.1 ≤ k → k < E.length → w2.heap.size ≤ x.2 k) (fun x => x.1) (E.length, fun _ => 0) rfl
    ⟨Nat.le_refl _, ⟨hT2, fun k h1 h2 => by dsimp only at h1; omega⟩, Kp.refl _ _, fun k h1 h2 => by dsimp only at h1; omega⟩ ?_
  rintro ⟨m, rb⟩ e wc ⟨hm, hR, kc, hrb⟩
  dsimp only at hm hR hrb ⊢
  have hbbw : bb < w2.heap.size := by omega
  have hnb : ∀ b, b ∈ g.p :: (blkOf g.ead ++ blkOf g.rad) → b ∉ [bb] := fun b hb hb2 => by simp at hb2; have := hw b hb; omega
  have hBc := hB2.kp kc hnb
  have zc := kc.size
  (repeat first|refine zA ?_|refine zB ?_|refine zg ?_|refine zo rfl rfl trivial ?_|refine zn ?_)
  refine r_if rfl (fun hc => ?_) (fun hc => ?_)
  · obtain ⟨i, rfl⟩ : ∃ i, m = i + 1 := ⟨m - 1, by omega⟩
    have ei : ((i + 1 : Nat) : Int) - 1 = (i : Int) := by omega
    rw [ei]
    have hiE : i < E.length := by omega
    (repeat first|refine zA ?_|refine zC ?_|refine zg ?_|refine zo rfl rfl trivial ?_|refine zb ?_|refine zk ?_)
    refine o_makeN (len := (E.length : Int)) (cap := (E.length : Int)) (kl := .i64) (kc := .i64) rfl rfl rfl rfl rfl (by omega) (by omega) (by omega) (by omega) rfl rfl ?_
    intro r w4 hr hu4
    rw [Int.toNat_natCast] at hu4 ⊢
    have k4 : Kp [] wc w4 := hu4.kp [] (.inr (by omega))
    have hr4 : Blk w4 r (bl (fun k => propB (RowP (lk E R) i (i + 1) k)) E.length) 4 := by
      have := hu4.blk
      have e1 : (List.replicate E.length [Value.bool false]).flatten = bl (fun k => propB (RowP (lk E R) i (i + 1) k)) E.length := by
        have e2 : (List.replicate E.length [Value.bool false]).flatten = List.replicate E.length (Value.bool false) := by simp
        rw [e2, bl_false]
        refine bl_congr fun k _ => ?_
        symm
        rw [Bool.eq_false_iff]
        intro hh
        obtain ⟨j', h1, h2, _⟩ := propB_iff.1 hh
        have := lk_lt h2
        omega
      rw [← e1]; exact this
    have hR4 := hR.kp0 k4
    have hB4 := hBc.kp0 k4
    have z4 := hu4.lt
    have hrbne : ∀ k, i + 1 ≤ k → k < E.length → rb k ≠ r := fun k h1 h2 e => by have := (hR.row k h1 h2).1.lt; omega
    have hrn : ∀ b, b ∈ g.p :: (blkOf g.ead ++ blkOf g.rad) → b ∉ [r] := fun b hb hb2 => by simp at hb2; have := hw b hb; omega
    (repeat first|refine zA ?_|refine zB ?_|refine zg ?_|refine zo rfl rfl (by first|exact trivial|(simp only[AllP];omega)) ?_|refine zn ?_|refine zb ?_)
    refine r_loop (α := Nat) [0, 2, 3, 4, 5] (fun j => [ptr g.p, I E.length, I i, .slice (some ⟨r, 0, none⟩) E.length E.length, I j]) (fun j w' => i < j ∧ j ≤ E.length ∧ Blk w' r (bl (fun k => propB (RowP (lk E R) i j k)) E.length) 4 ∧ Kp [r] w4 w') (fun j => E.length - j) (i + 1) rfl ⟨by omega, by omega, hr4, Kp.refl _ _⟩ ?_
    rintro j e w5 ⟨hij, hjn, hr5, k5⟩
    have hR5 : BRows w5 bb E R (i + 1) rb := hR4.kp k5 (by simp; omega) (fun k h1 h2 => by simpa using hrbne k h1 h2)
    have hB5 := hB4.kp k5 hrn
    (repeat first|refine zA ?_|refine zB ?_|refine zg ?_|refine zo rfl rfl trivial ?_|refine zn ?_)
    refine r_if rfl (fun hcj => ?_) (fun hcj => ?_)
    · have hjE : j < E.length := by omega
      have ej : Value.pointer (some ⟨r, 0 + (j : Int).toNat, none⟩) = .pointer (some ⟨r, j, none⟩) := by rw [Nat.zero_add, Int.toNat_natCast]
      (repeat first|refine zA ?_|refine zB ?_|refine zC ?_|refine zg ?_|refine zo rfl rfl (by first|exact trivial|(simp only[AllP];omega)) ?_|refine zb ?_|refine zk ?_)
      refine o_load (b := r) (off := j) (v := .bool (propB (RowP (lk E R) i j j))) ej hr5 (bl_get _ hjE) rfl rfl rfl rfl ?_
      (repeat refine zo rfl rfl trivial ?_)
      cases hmet : propB (RowP (lk E R) i j j) with
      | true =>
        (repeat first|refine zg ?_|refine zo rfl rfl (by first|exact trivial|(simp only[AllP];omega)) ?_|refine zn ?_|refine ze rfl ?_|refine zT rfl rfl rfl ?_|refine zt rfl ?_)
        refine ⟨j + 1, rfl, ⟨by omega, by omega, ?_, k5⟩, by omega⟩
        rw [bl_congr fun k _ => propB_congr (row_met (propB_iff.1 hmet))]
        exact hr5
      | false =>
        (repeat first|refine zo rfl rfl trivial ?_|refine zU rfl rfl rfl ?_)
        refine o_call (rWhy_ret hB5 i j) rfl rfl rfl ?_
        rintro v w6 ⟨rfl, k6⟩
        (repeat first|refine zo rfl rfl trivial ?_|refine zn ?_)
        by_cases hl : lk E R i j
        rotate_left
        · refine r_yes rfl (by simpa [lk] using hl) ?_
          (repeat first|refine zg ?_|refine zo rfl rfl (by first|exact trivial|(simp only[AllP];omega)) ?_|refine zn ?_|refine ze rfl ?_)
          refine ⟨j + 1, rfl, ⟨by omega, by omega, ?_, k5.trans (k6.mono (by simp))⟩, by omega⟩
          rw [bl_congr fun k _ => propB_congr (row_skip hl)]
          exact k6.blk (by simp) hr5
        refine r_no rfl (by simpa [lk] using hl) ?_
        have hr6 := k6.blk (by simp) hr5
        (repeat first|refine zA ?_|refine zg ?_|refine zo rfl rfl (by first|exact trivial|(simp only[AllP];omega)) ?_|refine zk ?_)
        refine o_store (b := r) (off := j) (v := .bool true) (c := none) ej hr6 (by rw [bl_len]; exact hjE) rfl rfl rfl rfl rfl rfl ?_
        intro w7 hu7
        have k7 : Kp [r] w6 w7 := hu7.kp _ (.inl (by simp))
        have hr7 : Blk w7 r (bl (fun x => propB (RowP (lk E R) i j x ∨ x = j ∨ (x < j + 1 ∧ Ch (lk E R) j x))) E.length) 4 := by
          have := hu7.blk
          rw [bl_set] at this
          rw [bl_congr (g := upB (fun k => propB (RowP (lk E R) i j k)) j true) fun x _ => ?_]
          · exact this
          · unfold upB
            by_cases q : x = j
            · rw [if_pos q]; exact propB_iff.2 (.inr (.inl q))
            · rw [if_neg q]
              refine propB_congr ⟨?_, .inl⟩
              rintro (h1 | h1 | ⟨h1, h2⟩)
              · exact h1
              · exact absurd h1 q
              · have := ch_lt h2; omega
        have k47 : Kp [r] w4 w7 := (k5.trans (k6.mono (by simp))).trans k7
        (repeat first|refine zA ?_|refine zg ?_|refine zo rfl rfl (by first|exact trivial|(simp only[AllP];omega)) ?_|refine zn ?_|refine zb ?_)
        refine r_loop (α := Nat) [0, 2, 3, 4, 5, 6] (fun k => [ptr g.p, I E.length, I i, .slice (some ⟨r, 0, none⟩) E.length E.length, I j, I k]) (fun k w' => j < k ∧ k ≤ E.length ∧ Blk w' r (bl (fun x => propB (RowP (lk E R) i j x ∨ x = j ∨ (x < k ∧ Ch (lk E R) j x))) E.length) 4 ∧ Kp [r] w4 w') (fun k => E.length - k) (j + 1) rfl ⟨by omega, by omega, hr7, k47⟩ ?_
        rintro k e w8 ⟨hjk, hkn, hr8, k8⟩
        have hR8 : BRows w8 bb E R (i + 1) rb := hR4.kp k8 (by simp; omega) (fun k h1 h2 => by simpa using hrbne k h1 h2)
        have hB8 := hB4.kp k8 hrn
        (repeat first|refine zA ?_|refine zB ?_|refine zg ?_|refine zo rfl rfl trivial ?_|refine zn ?_)
        refine r_if rfl (fun hck => ?_) (fun hck => ?_)
        · have hkE : k < E.length := by omega
          have ek : Value.pointer (some ⟨r, 0 + (k : Int).toNat, none⟩) = .pointer (some ⟨r, k, none⟩) := by rw [Nat.zero_add, Int.toNat_natCast]
          have hrow := (hR8.row j (by omega) hjE).1
          (repeat first|refine zC ?_|refine zg ?_|refine zo rfl rfl (by first|exact trivial|(simp only[AllP];omega)) ?_|refine zb ?_|refine zk ?_)
          have fin : ∀ b, b = (propB (RowP (lk E R) i j k ∨ k = j ∨ (k < k ∧ Ch (lk E R) j k)) || befI E R j k) → ∀ w', Upd w8 r (.cells ⟨(bl (fun x => propB (RowP (lk E R) i j x ∨ x = j ∨ (x < k ∧ Ch (lk E R) j x))) E.length).set k (.bool b)⟩ 4 (0, 0)) w' → Blk w' r (bl (fun x => propB (RowP (lk E R) i j x ∨ x = j ∨ (x < k + 1 ∧ Ch (lk E R) j x))) E.length) 4 ∧ Kp [r] w4 w' := by
            intro b hb w' hu
            refine ⟨?_, k8.trans (hu.kp _ (.inl (by simp)))⟩
            have := hu.blk
            rw [bl_set] at this
            rw [bl_congr (g := upB (fun x => propB (RowP (lk E R) i j x ∨ x = j ∨ (x < k ∧ Ch (lk E R) j x))) k b) fun x _ => ?_]
            · exact this
            · unfold upB
              by_cases q : x = k
              · subst q
                rw [if_pos rfl, hb, Bool.eq_iff_iff, propB_iff, Bool.or_eq_true, propB_iff, befI_nat]
                constructor
                · rintro (h1 | h1 | ⟨_, h2⟩)
                  · exact .inl (.inl h1)
                  · exact .inl (.inr (.inl h1))
                  · exact .inr h2
                · rintro ((h1 | h1 | ⟨h1, _⟩) | h1)
                  · exact .inl h1
                  · exact .inr (.inl h1)
                  · omega
                  · exact .inr (.inr ⟨by omega, h1⟩)
              · rw [if_neg q]
                refine propB_congr ⟨?_, ?_⟩
                · rintro (h1 | h1 | ⟨h1, h2⟩)
                  · exact .inl h1
                  · exact .inr (.inl h1)
                  · exact .inr (.inr ⟨by omega, h2⟩)
                · rintro (h1 | h1 | ⟨h1, h2⟩)
                  · exact .inl h1
                  · exact .inr (.inl h1)
                  · exact .inr (.inr ⟨by omega, h2⟩)
          refine o_load (b := r) (off := k) (v := .bool (propB (RowP (lk E R) i j k ∨ k = j ∨ (k < k ∧ Ch (lk E R) j k)))) ek hr8 (bl_get _ hkE) rfl rfl rfl rfl ?_
          (repeat refine zo rfl rfl trivial ?_)
          cases hv : propB (RowP (lk E R) i j k ∨ k = j ∨ (k < k ∧ Ch (lk E R) j k)) with
          | true =>
            refine o_is true 6 false rfl rfl rfl rfl ?_
            (repeat refine zo rfl rfl (by first|exact trivial|(simp only[AllP];omega)) ?_)
            refine o_store (b := r) (off := k) (v := .bool true) (c := none) ek hr8 (by rw [bl_len]; exact hkE) rfl rfl rfl rfl rfl rfl ?_
            intro w9 hu9
            have hf := fin true (by rw [hv]; rfl) w9 hu9
            (repeat first|refine zg ?_|refine zo rfl rfl (by first|exact trivial|(simp only[AllP];omega)) ?_|refine zn ?_)
            exact ⟨k + 1, rfl, ⟨by omega, by omega, hf.1, hf.2⟩, by omega⟩
          | false =>
            refine o_is false 6 false rfl rfl rfl rfl ?_
            (repeat refine zo rfl rfl trivial ?_)
            refine o_load (v := .slice (some ⟨bb, 0, none⟩) E.length E.length) rfl hB8.hdr rfl rfl rfl rfl rfl ?_
            (repeat refine zo rfl rfl (by first|exact trivial|(simp only[AllP];omega)) ?_)
            refine o_load (b := bb) (off := j) (v := .slice (some ⟨rb j, 0, none⟩) E.length E.length) (by show Value.pointer (some ⟨bb, 0 + (j : Int).toNat, none⟩) = _; rw [Nat.zero_add, Int.toNat_natCast]) hR8.top (rowsV_get rb hjE (by omega)) rfl rfl rfl rfl ?_
            (repeat refine zo rfl rfl (by first|exact trivial|(simp only[AllP];omega)) ?_)
            refine o_load (b := rb j) (off := k) (v := .bool (befI E R j k)) (by show Value.pointer (some ⟨rb j, 0 + (k : Int).toNat, none⟩) = _; rw [Nat.zero_add, Int.toNat_natCast]) hrow (bl_get _ hkE) rfl rfl rfl rfl ?_
            (repeat refine zo rfl rfl (by first|exact trivial|(simp only[AllP];omega)) ?_)
            refine o_store (b := r) (off := k) (v := .bool (befI E R j k)) (c := none) ek hr8 (by rw [bl_len]; exact hkE) rfl rfl rfl rfl rfl rfl ?_
            intro w9 hu9
            have hf := fin (befI E R j k) (by rw [hv]; rfl) w9 hu9
            (repeat first|refine zg ?_|refine zo rfl rfl (by first|exact trivial|(simp only[AllP];omega)) ?_|refine zn ?_)
            exact ⟨k + 1, rfl, ⟨by omega, by omega, hf.1, hf.2⟩, by omega⟩
        · have hkE : k = E.length := by omega
          subst hkE
          (repeat first|refine zg ?_|refine zo rfl rfl (by first|exact trivial|(simp only[AllP];omega)) ?_|refine zn ?_|refine ze rfl ?_)
          refine ⟨j + 1, rfl, ⟨by omega, by omega, ?_, k8⟩, by omega⟩
          rw [bl_congr (g := fun x => propB (RowP (lk E R) i j x ∨ x = j ∨ (x < E.length ∧ Ch (lk E R) j x))) fun x _ => propB_congr ?_]
          · exact hr8
          · rw [row_new hl]
            constructor
            · rintro (h1 | h1 | h1)
              · exact .inl h1
              · exact .inr (.inl h1)
              · exact .inr (.inr ⟨(ch_lt h1).2, h1⟩)
            · rintro (h1 | h1 | ⟨_, h1⟩)
              · exact .inl h1
              · exact .inr (.inl h1)
              · exact .inr (.inr h1)
    · have hjE : j = E.length := by omega
      subst hjE
      have hrow : Blk w5 r (bl (fun k => befI E R i k) E.length) 4 := by
        rw [bl_congr (g := fun k => propB (RowP (lk E R) i E.length k)) fun x _ => ?_]
        · exact hr5
        · rw [Bool.eq_iff_iff, propB_iff, befI_nat, row_all]
      (repeat first|refine zg ?_|refine zo rfl rfl trivial ?_|refine ze rfl ?_)
      refine o_load rfl hB5.hdr rfl rfl rfl rfl rfl ?_
      (repeat refine zo rfl rfl (by first|exact trivial|(simp only[AllP];omega)) ?_)
      refine o_store (b := bb) (off := i) (v := .slice (some ⟨r, 0, none⟩) E.length E.length) (c := none) (by show Value.pointer (some ⟨bb, 0 + (i : Int).toNat, none⟩) = _; rw [Nat.zero_add, Int.toNat_natCast]) hR5.top (by rw [rowsV_len]; exact hiE) rfl rfl rfl rfl rfl rfl ?_
      intro w6 hu6
      have k6 : Kp [bb] w5 w6 := hu6.kp _ (.inl (by simp))
      have hT6 := hu6.blk
      rw [rowsV_set rb hiE] at hT6
      have z5 := k5.size
      (repeat first|refine zg ?_|refine zo rfl rfl (by first|exact trivial|(simp only[AllP];omega)) ?_|refine zn ?_)
      refine ⟨(i, fun k => if k = i then r else rb k), rfl, ⟨by dsimp only; omega, ⟨hT6, fun k h1 h2 => ?_⟩, ?_, fun k h1 h2 => ?_⟩, by dsimp only; omega⟩
      · dsimp only
        by_cases q : k = i
        · subst q
          rw [if_pos rfl]
          exact ⟨k6.blk (by simp; omega) hrow, by omega⟩
        · rw [if_neg q]
          have := hR5.row k (by dsimp only at h1; omega) h2
          exact ⟨k6.blk (by simpa using this.2) this.1, this.2⟩
      · have q1 : Kp [bb] w2 w4 := kc.trans (k4.mono (by simp))
        exact (q1.sinceS k5 (fun b hb => by simp at hb; subst hb; exact .inr (by omega))).trans k6
      · dsimp only at h1 ⊢
        by_cases q : k = i
        · rw [if_pos q]; omega
        · rw [if_neg q]; exact hrb k (by omega) h2
  · have hm0 : m = 0 := by omega
    subst hm0
    (repeat refine ze rfl ?_)
    refine ⟨_, rfl, rfl, .slice (some ⟨bb, 0, none⟩) E.length E.length, ⟨hBc, bb, rb, rfl, hR⟩, ?_, bb, rb, rfl, hR, by omega, fun k hk => by have := hrb k (by omega) hk; omega⟩
    exact ((k1.mono (by simp)).trans k2).sinceS kc (fun b hb => by simp at hb; subst hb; exact .inr (by omega))
end
end Go.Vc
