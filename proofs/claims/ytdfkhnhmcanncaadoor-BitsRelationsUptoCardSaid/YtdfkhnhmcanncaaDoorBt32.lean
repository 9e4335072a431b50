/- bits: what BitsRelations keeps from round to round. -/
import Derived.Test.YtdfkhnhmcanncaaDoorBt31
namespace Go.Vc
open Go Go.Proofs
set_option maxRecDepth 10000
variable {w : World}

theorem own_rel {p n : Nat} {bs : List Nat} {M : List (List Nat)} {ad : Option Addr} {cap : Nat} (h : RelAt w p n bs M ad cap) {T : TypeId} {a : Option Addr} {k c size : Nat} {xs : List Value} (ho : OwnS w T size a k c xs) (h1 : T ≠ 100) (h2 : T ≠ 40) (h3 : T ≠ 41) : ∀ b, b ∈ blkOf a → b ∉ relBlks p ad bs := by
  intro b hb hb2
  obtain ⟨l, hl⟩ := ho.typed hb
  obtain ⟨l2, T2, g2, t2⟩ := h.typed3 b hb2
  refine relRow_ne hl g2 ?_ rfl
  rcases t2 with rfl | rfl | rfl <;> assumption
theorem own_rr {p bw n : Nat} {As : Nat → Option Addr × Nat} {M : List (List Nat)} (h : RRel w p bw n As M) {T : TypeId} {a : Option Addr} {k c size : Nat} {xs : List Value} (ho : OwnS w T size a k c xs) (h1 : T ≠ 110) (h2 : T ≠ 106) (h3 : T ≠ 3) : ∀ b, b ∈ blkOf a → b ∉ rrBlks p bw n As := by
  intro b hb hb2
  obtain ⟨l, hl⟩ := ho.typed hb
  obtain ⟨l2, T2, g2, t2⟩ := h.typed b hb2
  refine relRow_ne hl g2 ?_ rfl
  rcases t2 with rfl | rfl | rfl <;> assumption
theorem blk_rel {p n : Nat} {bs : List Nat} {M : List (List Nat)} {ad : Option Addr} {cap : Nat} (h : RelAt w p n bs M ad cap) {T : TypeId} {b : Nat} {l : List Value} (hb : Blk w b l T) (h1 : T ≠ 100) (h2 : T ≠ 40) (h3 : T ≠ 41) : b ∉ relBlks p ad bs := by
  intro hb2
  obtain ⟨l2, T2, g2, t2⟩ := h.typed3 b hb2
  refine relRow_ne hb g2 ?_ rfl
  rcases t2 with rfl | rfl | rfl <;> assumption
theorem blk_rr {p bw n : Nat} {As : Nat → Option Addr × Nat} {M : List (List Nat)} (h : RRel w p bw n As M) {T : TypeId} {b : Nat} {l : List Value} (hb : Blk w b l T) (h1 : T ≠ 110) (h2 : T ≠ 106) (h3 : T ≠ 3) : b ∉ rrBlks p bw n As := by
  intro hb2
  obtain ⟨l2, T2, g2, t2⟩ := h.typed b hb2
  refine relRow_ne hb g2 ?_ rfl
  rcases t2 with rfl | rfl | rfl <;> assumption
theorem rel_rr {p n : Nat} {bs : List Nat} {M : List (List Nat)} {ad : Option Addr} {cap : Nat} (h : RelAt w p n bs M ad cap) {q bq m : Nat} {Aq : Nat → Option Addr × Nat} {N : List (List Nat)} (k : RRel w q bq m Aq N) : ∀ b, b ∈ relBlks p ad bs → b ∉ rrBlks q bq m Aq := by
  intro b hb hb2
  obtain ⟨l1, T1, g1, t1⟩ := h.typed3 b hb
  obtain ⟨l2, T2, g2, t2⟩ := k.typed b hb2
  refine relRow_ne g1 g2 ?_ rfl
  rcases t1 with rfl | rfl | rfl <;> rcases t2 with rfl | rfl | rfl <;> decide

/-! ### The sequences that were told, and what they must tell -/
structure Seqs (w0 wc : World) (sqs : List (Value × List (Nat × Nat))) (adS : Option Addr) (capS : Nat) (wts : List (Option Addr × Nat × List (Nat × Nat))) (adW : Option Addr) (capW : Nat) (Cst : List Nat) : Prop where
  tab : TabW wc
  tabIn : 0 ∈ Cst
  sq : OwnS wc 64 1 adS sqs.length capS (sqs.map (·.1))
  wt : OwnS wc 22 1 adW wts.length capW (wts.map fun t => Value.slice t.1 (flatP t.2.2).length t.2.1)
  sqi : ∀ s ∈ sqs, s.1.oneCell' = true ∧ s.2.length ≤ 4194304 ∧ ∃ Fp, SeqP wc s.1 Fp s.2 ∧ ∀ b, b ∈ Fp → b ∈ Cst
  wti : ∀ t ∈ wts, OwnS wc 3 1 t.1 (flatP t.2.2).length t.2.1 ((flatP t.2.2).map encI) ∧ ∀ b, b ∈ blkOf t.1 → b ∈ Cst
  lt : ∀ b, b ∈ Cst → b < wc.heap.size
  dis : ∀ b, b ∈ Cst → b ∉ blkOf adS ∧ b ∉ blkOf adW
  new : ∀ b, b ∈ blkOf adS ∨ b ∈ blkOf adW → w0.heap.size ≤ b
section
variable {w0 wc : World} {sqs : List (Value × List (Nat × Nat))} {adS : Option Addr} {capS : Nat} {wts : List (Option Addr × Nat × List (Nat × Nat))} {adW : Option Addr} {capW : Nat} {Cst : List Nat}
theorem Seqs.kp {w' : World} (h : Seqs w0 wc sqs adS capS wts adW capW Cst) {S : List Nat} (hk : Kp S wc w') (hC : ∀ b, b ∈ Cst → b ∉ S) (hS : ∀ b, b ∈ blkOf adS → b ∉ S) (hW : ∀ b, b ∈ blkOf adW → b ∉ S) : Seqs w0 w' sqs adS capS wts adW capW Cst :=
  ⟨h.tab.kp hk (hC _ h.tabIn), h.tabIn, h.sq.kp hk hS, h.wt.kp hk hW, fun s hs => by
    obtain ⟨h0, h1, Fp, h2, h3⟩ := h.sqi s hs
    exact ⟨h0, h1, Fp, h2.kp hk (fun b hb => hC b (h3 b hb)), h3⟩, fun t ht => by
    obtain ⟨h1, h2⟩ := h.wti t ht
    exact ⟨h1.kp hk (fun b hb => hC b (h2 b hb)), h2⟩, fun b hb => Nat.lt_of_lt_of_le (h.lt b hb) hk.size, h.dis, h.new⟩
theorem Seqs.kp0 {w' : World} (h : Seqs w0 wc sqs adS capS wts adW capW Cst) (hk : Kp [] wc w') : Seqs w0 w' sqs adS capS wts adW capW Cst := h.kp hk (by simp) (by simp) (by simp)
theorem Seqs.push1 {w1 w2 : World} (h : Seqs w0 wc sqs adS capS wts adW capW Cst) (hk0 : Kp [] w0 wc) (k1 : Kp [] wc w1) {v : Value} {xs : List (Nat × Nat)} {F : List Nat} (hv : v.oneCell' = true) (hx : xs.length ≤ 4194304) (hs : SeqP w1 v (0 :: F) xs) (hF : ∀ b, b ∈ F → wc.heap.size ≤ b)
    {ad' : Option Addr} {cap' : Nat} (ho : OwnS w2 64 1 ad' (sqs.length + 1) cap' (sqs.map (·.1) ++ [v])) (k2 : Kp (blkOf adS) w1 w2) (hnew : ∀ b, b ∈ blkOf ad' → b ∈ blkOf adS ∨ w1.heap.size ≤ b) :
    Seqs w0 w2 (sqs ++ [(v, xs)]) ad' cap' wts adW capW (F ++ Cst) := by
  have h1 := h.kp0 k1
  have hs0 := hk0.size
  have hs1 := k1.size
  have hs2 := k2.size
  have hSW : ∀ b, b ∈ blkOf adW → b ∉ blkOf adS := fun b hb hb2 => by
    obtain ⟨l1, g1⟩ := h1.wt.typed hb
    obtain ⟨l2, g2⟩ := h1.sq.typed hb2
    exact relRow_ne g1 g2 (by decide) rfl
  have hCS : ∀ b, b ∈ Cst → b ∉ blkOf adS := fun b hb => (h.dis b hb).1
  have hFS : ∀ b, b ∈ F → b ∉ blkOf adS := fun b hb hb2 => by have := hF b hb; have := h.sq.lt b hb2; omega
  have hFlt : ∀ b, b ∈ F → b < w1.heap.size := fun b hb => hs.lt b (List.mem_cons_of_mem _ hb)
  refine ⟨h1.tab.kp k2 (hCS _ h.tabIn), List.mem_append_right _ h.tabIn, by simpa using ho, h1.wt.kp k2 hSW, fun s hs' => ?_, fun t ht => ?_, fun b hb => ?_, fun b hb => ?_, fun b hb => ?_⟩
  · rcases List.mem_append.1 hs' with hs' | hs'
    · obtain ⟨g0, g1, Fp, g2, g3⟩ := h1.sqi s hs'
      exact ⟨g0, g1, Fp, g2.kp k2 (fun b hb => hCS b (g3 b hb)), fun b hb => List.mem_append_right _ (g3 b hb)⟩
    · simp at hs'; subst hs'
      refine ⟨hv, hx, _, hs.kp k2 (fun b hb => ?_), fun b hb => ?_⟩
      · rcases List.mem_cons.1 hb with rfl | hb
        · exact hCS _ h.tabIn
        · exact hFS b hb
      · rcases List.mem_cons.1 hb with rfl | hb
        · exact List.mem_append_right _ h.tabIn
        · exact List.mem_append_left _ hb
  · obtain ⟨g1, g2⟩ := h1.wti t ht
    exact ⟨g1.kp k2 (fun b hb => hCS b (g2 b hb)), fun b hb => List.mem_append_right _ (g2 b hb)⟩
  · rcases List.mem_append.1 hb with hb | hb
    · have := hFlt b hb; omega
    · have := h.lt b hb; omega
  · rcases List.mem_append.1 hb with hb | hb
    · refine ⟨fun hb2 => ?_, fun hb2 => ?_⟩
      · rcases hnew b hb2 with g | g
        · exact hFS b hb g
        · have := hFlt b hb; omega
      · have := hF b hb; have := h.wt.lt b hb2; omega
    · refine ⟨fun hb2 => ?_, (h.dis b hb).2⟩
      rcases hnew b hb2 with g | g
      · exact hCS b hb g
      · have := h.lt b hb; omega
  · rcases hb with hb | hb
    · rcases hnew b hb with g | g
      · exact h.new b (.inl g)
      · omega
    · exact h.new b (.inr hb)
theorem Seqs.push2 {w1 w2 : World} (h : Seqs w0 wc sqs adS capS wts adW capW Cst) (hk0 : Kp [] w0 wc) {xs : List (Nat × Nat)} {a : Option Addr} {c : Nat} {wn : World} (hn : NewS wc 3 wn a (flatP xs).length c ((flatP xs).map encI)) (k1 : Kp [] wn w1)
    {ad' : Option Addr} {cap' : Nat} (ho : OwnS w2 22 1 ad' (wts.length + 1) cap' (wts.map (fun t => Value.slice t.1 (flatP t.2.2).length t.2.1) ++ [.slice a (flatP xs).length c])) (k2 : Kp (blkOf adW) w1 w2) (hnew : ∀ b, b ∈ blkOf ad' → b ∈ blkOf adW ∨ w1.heap.size ≤ b) :
    Seqs w0 w2 sqs adS capS (wts ++ [(a, c, xs)]) ad' cap' (blkOf a ++ Cst) := by
  have kk := hn.kp.trans k1
  have h1 := h.kp0 kk
  have hs0 := hk0.size
  have hs1 := kk.size
  have hs2 := k2.size
  have hSW : ∀ b, b ∈ blkOf adS → b ∉ blkOf adW := fun b hb hb2 => by
    obtain ⟨l1, g1⟩ := h1.sq.typed hb
    obtain ⟨l2, g2⟩ := h1.wt.typed hb2
    exact relRow_ne g1 g2 (by decide) rfl
  have hCW : ∀ b, b ∈ Cst → b ∉ blkOf adW := fun b hb => (h.dis b hb).2
  have hFW : ∀ b, b ∈ blkOf a → b ∉ blkOf adW := fun b hb hb2 => by have := hn.new b hb; have := h.wt.lt b hb2; omega
  have hFlt : ∀ b, b ∈ blkOf a → b < w1.heap.size := fun b hb => by have := hn.own.lt b hb; have := k1.size; omega
  refine ⟨h1.tab.kp k2 (hCW _ h.tabIn), List.mem_append_right _ h.tabIn, h1.sq.kp k2 hSW, by simpa using ho, fun s hs' => ?_, fun t ht => ?_, fun b hb => ?_, fun b hb => ?_, fun b hb => ?_⟩
  · obtain ⟨g0, g1, Fp, g2, g3⟩ := h1.sqi s hs'
    exact ⟨g0, g1, Fp, g2.kp k2 (fun b hb => hCW b (g3 b hb)), fun b hb => List.mem_append_right _ (g3 b hb)⟩
  · rcases List.mem_append.1 ht with ht | ht
    · obtain ⟨g1, g2⟩ := h1.wti t ht
      exact ⟨g1.kp k2 (fun b hb => hCW b (g2 b hb)), fun b hb => List.mem_append_right _ (g2 b hb)⟩
    · simp at ht; subst ht
      exact ⟨(hn.own.kp k1 (by simp)).kp k2 hFW, fun b hb => List.mem_append_left _ hb⟩
  · rcases List.mem_append.1 hb with hb | hb
    · have := hFlt b hb; omega
    · have := h.lt b hb; omega
  · rcases List.mem_append.1 hb with hb | hb
    · refine ⟨fun hb2 => ?_, fun hb2 => ?_⟩
      · have := hn.new b hb; have := h.sq.lt b hb2; omega
      · rcases hnew b hb2 with g | g
        · exact hFW b hb g
        · have := hFlt b hb; omega
    · refine ⟨(h.dis b hb).1, fun hb2 => ?_⟩
      rcases hnew b hb2 with g | g
      · exact hCW b hb g
      · have := h.lt b hb; omega
  · rcases hb with hb | hb
    · exact h.new b (.inl hb)
    · rcases hnew b hb with g | g
      · exact h.new b (.inr g)
      · omega
end

/-! ### The two relations -/
structure BRel (w0 wc : World) (Cst : List Nat) (n : Nat) (p : Nat) (bs : List Nat) (M : List (List Nat)) (ad : Option Addr) (cap : Nat) (q bq : Nat) (Aq : Nat → Option Addr × Nat) (N : List (List Nat)) : Prop where
  rel : RelAt wc p n bs M ad cap
  rr : RRel wc q bq n Aq N
  nok : MOk n N
  newR : ∀ b, b ∈ relBlks p ad bs → w0.heap.size ≤ b
  newQ : ∀ b, b ∈ rrBlks q bq n Aq → w0.heap.size ≤ b
  dis : ∀ b, b ∈ Cst → b ∉ relBlks p ad bs ∧ b ∉ rrBlks q bq n Aq
section
variable {w0 wc : World} {Cst : List Nat} {n p : Nat} {bs : List Nat} {M N : List (List Nat)} {ad : Option Addr} {cap : Nat} {q bq : Nat} {Aq : Nat → Option Addr × Nat}
theorem BRel.kp {w' : World} (h : BRel w0 wc Cst n p bs M ad cap q bq Aq N) {S : List Nat} (hk : Kp S wc w') (hR : ∀ b, b ∈ relBlks p ad bs → b ∉ S) (hQ : ∀ b, b ∈ rrBlks q bq n Aq → b ∉ S) : BRel w0 w' Cst n p bs M ad cap q bq Aq N :=
  ⟨h.rel.kp hk hR, h.rr.kp hk hQ, h.nok, h.newR, h.newQ, h.dis⟩
theorem BRel.kp0 {w' : World} (h : BRel w0 wc Cst n p bs M ad cap q bq Aq N) (hk : Kp [] wc w') : BRel w0 w' Cst n p bs M ad cap q bq Aq N := h.kp hk (by simp) (by simp)
theorem BRel.relTo {w' : World} {M' : List (List Nat)} (h : BRel w0 wc Cst n p bs M ad cap q bq Aq N) (k : RelTo wc p n bs ad cap w' M') : BRel w0 w' Cst n p bs M' ad cap q bq Aq N :=
  ⟨k.at_, h.rr.kp k.kp (fun b hb hb2 => rel_rr h.rel h.rr b hb2 hb), h.nok, h.newR, h.newQ, h.dis⟩
theorem BRel.rrTo {w' : World} {N' : List (List Nat)} {bq' : Nat} {Aq' : Nat → Option Addr × Nat} (h : BRel w0 wc Cst n p bs M ad cap q bq Aq N) (hk0 : Kp [] w0 wc) (hC : ∀ b, b ∈ Cst → b < wc.heap.size) (k : RRTo wc q bq n Aq w' bq' Aq' N') (hN : MOk n N') : BRel w0 w' Cst n p bs M ad cap q bq' Aq' N' :=
  ⟨h.rel.kp k.kp (rel_rr h.rel h.rr), k.at_, hN, h.newR, fun b hb => by
    rcases List.mem_cons.1 hb with rfl | hb
    · exact h.newQ _ (by simp [rrBlks])
    · rcases k.new b hb with g | g
      · exact h.newQ b (List.mem_cons_of_mem _ g)
      · have := hk0.size; omega, fun b hb => ⟨(h.dis b hb).1, fun hb2 => by
    rcases List.mem_cons.1 hb2 with rfl | hb2
    · exact (h.dis _ hb).2 (by simp [rrBlks])
    · rcases k.new b hb2 with g | g
      · exact (h.dis b hb).2 (List.mem_cons_of_mem _ g)
      · have := hC b hb; omega⟩⟩
/-- another relation in its place; the old one has been turned since -/
theorem BRel.swap {w1 w3 : World} {p' : Nat} {bs' : List Nat} {M' : List (List Nat)} {ad' : Option Addr} {cap' : Nat} (h : BRel w0 wc Cst n p bs M ad cap q bq Aq N) (hk0 : Kp [] w0 wc) (hC : ∀ b, b ∈ Cst → b < wc.heap.size) (k : NewRel wc p' n w1 bs' M' ad' cap') (k3 : Kp (relBlks p ad bs) w1 w3) : BRel w0 w3 Cst n p' bs' M' ad' cap' q bq Aq N :=
  ⟨k.at_.kp k3 (fun b hb hb2 => by have := k.new b hb; have := h.rel.lt b hb2; omega), (h.rr.kp0 k.kp).kp k3 (fun b hb hb2 => rel_rr h.rel h.rr b hb2 hb), h.nok, fun b hb => by have := k.new b hb; have := hk0.size; omega, h.newQ,
    fun b hb => ⟨fun hb2 => by have := k.new b hb2; have := hC b hb; omega, (h.dis b hb).2⟩⟩
theorem BRel.rrSwap {w1 : World} {q' bq' : Nat} {Aq' : Nat → Option Addr × Nat} {N' : List (List Nat)} (h : BRel w0 wc Cst n p bs M ad cap q bq Aq N) (hk0 : Kp [] w0 wc) (hC : ∀ b, b ∈ Cst → b < wc.heap.size) (k : NewRR wc q' bq' n w1 Aq' N') (hN : MOk n N') : BRel w0 w1 Cst n p bs M ad cap q' bq' Aq' N' :=
  ⟨h.rel.kp0 k.kp, k.at_, hN, h.newR, fun b hb => by have := k.new b hb; have := hk0.size; omega,
    fun b hb => ⟨(h.dis b hb).1, fun hb2 => by have := k.new b hb2; have := hC b hb; omega⟩⟩
theorem BRel.cst {Cst' : List Nat} (h : BRel w0 wc Cst n p bs M ad cap q bq Aq N) (hd : ∀ b, b ∈ Cst' → b ∈ Cst ∨ (b ∉ relBlks p ad bs ∧ b ∉ rrBlks q bq n Aq)) : BRel w0 wc Cst' n p bs M ad cap q bq Aq N :=
  ⟨h.rel, h.rr, h.nok, h.newR, h.newQ, fun b hb => by
    rcases hd b hb with g | g
    · exact h.dis b g
    · exact g⟩
end
theorem and63 (x : Int) : ∃ k : Nat, ibits .and .i64 x 63 = (k : Int) ∧ k < 64 := by
  have h1 : (BitVec.ofInt 64 x &&& BitVec.ofInt 64 63).toNat ≤ 63 := by
    rw [BitVec.toNat_and]
    exact Nat.and_le_right
  refine ⟨(BitVec.ofInt 64 x &&& BitVec.ofInt 64 63).toNat, ?_, by omega⟩
  show IntKind.i64.wrap ((BitVec.ofInt 64 x &&& BitVec.ofInt 64 63).toNat : Int) = _
  rw [IntKind.wrap_i64]
  omega
end Go.Vc
