/- bits: BitsRelations. -/
import Derived.Test.YtdfkhnhmcanncaaDoorBt32
namespace Go.Vc
open Go Go.Proofs
set_option maxRecDepth 10000
variable {w : World}

theorem Iter.more {P : Program} {f : FuncId} {lb : List Value} {Fp Fp' : List Nat} {α : Type} {enc : α → List Value} {xs : List α} (h : Iter P f lb Fp enc xs w) (hs : ∀ b, b ∈ Fp → b ∈ Fp') (hl : ∀ b, b ∈ Fp' → b < w.heap.size) : Iter P f lb Fp' enc xs w :=
  ⟨hl, fun l w1 J Jx hsz hp => h.2 l w1 J Jx hsz (fun pre W hJ b hb => hp pre W hJ b (hs b hb))⟩
theorem Pairs_nil' (hT : TabW w) : Ret Tryd.prog 34 [.pointer none] w (fun v w' => ∃ Fp, SeqP w' v (0 :: Fp) [] ∧ Kp [] w w' ∧ ∀ b, b ∈ Fp → w.heap.size ≤ b) :=
  Pairs_nil.mono fun v w' ⟨Fp, hs, hk, hn⟩ => by
    obtain ⟨f, lb, h1, h2⟩ := hs.is
    refine ⟨Fp, ⟨f, lb, h1, h2.more (fun b hb => List.mem_cons_of_mem _ hb) fun b hb => ?_⟩, hk, hn⟩
    rcases List.mem_cons.1 hb with rfl | hb
    · have := hT.lt; have := hk.size; omega
    · exact h2.1 b hb
theorem pairsN_one (xs : List (Nat × Nat)) : flatP (pairsN xs 1) = (flatP xs).take (min 2 (flatP xs).length) := by
  cases xs with
  | nil => rfl
  | cons x r =>
    have : pairsN (x :: r) 1 = [x] := by simp [pairsN]
    rw [this]
    have h2 := flatP_len (x :: r)
    have h3 : min 2 (flatP (x :: r)).length = 2 := by rw [h2]; simp; omega
    rw [h3]
    simp [flatP]
structure BG where
  i : Nat
  M : List (List Nat)
  p : Nat
  bs : List Nat
  ad : Option Addr
  cap : Nat
  q : Nat
  bq : Nat
  Aq : Nat → Option Addr × Nat
  sqs : List (Value × List (Nat × Nat))
  adS : Option Addr
  capS : Nat
  wts : List (Option Addr × Nat × List (Nat × Nat))
  adW : Option Addr
  capW : Nat
  Cst : List Nat
structure BInv (w0 : World) (n : Nat) (len : Nat) (g : BG) (wc : World) : Prop where
  kp : Kp [] w0 wc
  rel : BRel w0 wc g.Cst n g.p g.bs g.M g.ad g.cap g.q g.bq g.Aq g.M
  inb : InB n g.M
  seqs : Seqs w0 wc g.sqs g.adS g.capS g.wts g.adW g.capW g.Cst
  same : g.sqs.map (·.2) = g.wts.map (·.2.2)
  few : g.sqs.length ≤ g.i
  le : g.i ≤ len
structure BInv0 (w0 : World) (len : Nat) (g : BG) (wc : World) : Prop where
  kp : Kp [] w0 wc
  seqs : Seqs w0 wc g.sqs g.adS g.capS g.wts g.adW g.capW g.Cst
  same : g.sqs.map (·.2) = g.wts.map (·.2.2)
  few : g.sqs.length ≤ g.i
  le : g.i ≤ len
theorem seqs_start {w0 wc : World} (hT : TabW wc) : Seqs w0 wc [] none 0 [] none 0 [0] :=
  ⟨hT, by simp, ownS_nil _ _ _, ownS_nil _ _ _, by simp, by simp, fun b hb => by simp at hb; subst hb; exact hT.lt, by simp [blkOf], by simp [blkOf]⟩

set_option maxHeartbeats 16000000 in
theorem BitsRelations_ret (hT : TabW w) {size : Int} (hsz : -9223372036854775808 ≤ size ∧ size ≤ 9223372036854775807) {ad : Option Addr} {es : List (Int × Int × Int)} {c : Nat} (h : ReadS w ad (edgeV es)) (hl : es.length ≤ 1048576)
    (hrng : ∀ e ∈ es, (-9223372036854775808 ≤ e.1 ∧ e.1 ≤ 9223372036854775807) ∧ (-9223372036854775808 ≤ e.2.1 ∧ e.2.1 ≤ 9223372036854775807) ∧ (-9223372036854775808 ≤ e.2.2 ∧ e.2.2 ≤ 9223372036854775807)) :
    Ret Tryd.prog 6 [I size, .slice ad es.length c] w (fun v w' => v = .bool true ∧ Kp [] w w') := by
  refine enter Tryd.call6 Tryd.func6 rfl rfl rfl rfl ?_
  (repeat first|refine zA ?_|refine zB ?_|refine zC ?_|refine zD ?_|refine zE ?_|refine zg ?_|refine zo rfl rfl (by first|exact trivial|(simp only[AllP];omega)|(simp(discharger:=omega)only[AllP,cA,cB];omega)|(simp only[AllP,cC,cD,cE,cF,cG];omega)) ?_|refine zn ?_|refine zb ?_|refine ze rfl ?_|refine zr ?_|refine zk ?_|refine zT rfl rfl rfl ?_|refine zU rfl rfl rfl ?_|refine zV rfl rfl rfl ?_|refine zf rfl ?_|refine zt rfl ?_)
  by_cases hv : 0 ≤ size ∧ size ≤ 2048
  · obtain ⟨n, rfl⟩ : ∃ n : Nat, size = (n : Int) := ⟨size.toNat, by omega⟩
    refine o_call (NewRelation_ret hT (n := n) (by omega)) rfl rfl rfl ?_
    rintro v w2 ⟨p, bs, adr, capr, rfl, hr2⟩
    have hT2 := hT.kp hr2.kp (by simp)
    (repeat first|refine zA ?_|refine zB ?_|refine zC ?_|refine zD ?_|refine zE ?_|refine zg ?_|refine zo rfl rfl (by first|exact trivial|(simp only[AllP];omega)|(simp(discharger:=omega)only[AllP,cA,cB];omega)|(simp only[AllP,cC,cD,cE,cF,cG];omega)) ?_|refine zn ?_|refine zb ?_|refine ze rfl ?_|refine zr ?_|refine zk ?_|refine zT rfl rfl rfl ?_|refine zU rfl rfl rfl ?_|refine zV rfl rfl rfl ?_|refine zf rfl ?_|refine zt rfl ?_)
    refine o_call (rNew_ret hT2 (n := n) (by omega)) rfl rfl rfl ?_
    rintro v w3 ⟨q, bq, Aq, rfl, hq3⟩
    have hT3 := hT2.kp hq3.kp (by simp)
    have hr3 := hr2.at_.kp0 hq3.kp
    (repeat first|refine zA ?_|refine zB ?_|refine zC ?_|refine zD ?_|refine zE ?_|refine zg ?_|refine zo rfl rfl (by first|exact trivial|(simp only[AllP];omega)|(simp(discharger:=omega)only[AllP,cA,cB];omega)|(simp only[AllP,cC,cD,cE,cF,cG];omega)) ?_|refine zn ?_|refine zb ?_|refine ze rfl ?_|refine zr ?_|refine zk ?_|refine zT rfl rfl rfl ?_|refine zU rfl rfl rfl ?_|refine zV rfl rfl rfl ?_|refine zf rfl ?_|refine zt rfl ?_)
    refine o_call (num_ret 0) rfl rfl rfl ?_
    rintro v w4 ⟨rfl, rfl⟩
    (repeat first|refine zA ?_|refine zB ?_|refine zC ?_|refine zD ?_|refine zE ?_|refine zg ?_|refine zo rfl rfl (by first|exact trivial|(simp only[AllP];omega)|(simp(discharger:=omega)only[AllP,cA,cB];omega)|(simp only[AllP,cC,cD,cE,cF,cG];omega)) ?_|refine zn ?_|refine zb ?_|refine ze rfl ?_|refine zr ?_|refine zk ?_|refine zT rfl rfl rfl ?_|refine zU rfl rfl rfl ?_|refine zV rfl rfl rfl ?_|refine zf rfl ?_|refine zt rfl ?_)
    refine o_call (Size_ret hr3) rfl rfl rfl ?_
    rintro v w5 ⟨rfl, rfl⟩
    (repeat first|refine zA ?_|refine zB ?_|refine zC ?_|refine zD ?_|refine zE ?_|refine zg ?_|refine zo rfl rfl (by first|exact trivial|(simp only[AllP];omega)|(simp(discharger:=omega)only[AllP,cA,cB];omega)|(simp only[AllP,cC,cD,cE,cF,cG];omega)) ?_|refine zn ?_|refine zb ?_|refine ze rfl ?_|refine zr ?_|refine zk ?_|refine zT rfl rfl rfl ?_|refine zU rfl rfl rfl ?_|refine zV rfl rfl rfl ?_|refine zf rfl ?_|refine zt rfl ?_)
    refine o_call (rSize_ret hq3.at_) rfl rfl rfl ?_
    rintro v w4 ⟨rfl, rfl⟩
    (repeat first|refine zA ?_|refine zB ?_|refine zC ?_|refine zD ?_|refine zE ?_|refine zg ?_|refine zo rfl rfl (by first|exact trivial|(simp only[AllP];omega)|(simp(discharger:=omega)only[AllP,cA,cB];omega)|(simp only[AllP,cC,cD,cE,cF,cG];omega)) ?_|refine zn ?_|refine zb ?_|refine ze rfl ?_|refine zr ?_|refine zk ?_|refine zT rfl rfl rfl ?_|refine zU rfl rfl rfl ?_|refine zV rfl rfl rfl ?_|refine zf rfl ?_|refine zt rfl ?_)
    refine r_no rfl (by simp) ?_
    (repeat first|refine zA ?_|refine zB ?_|refine zC ?_|refine zD ?_|refine zE ?_|refine zg ?_|refine zo rfl rfl (by first|exact trivial|(simp only[AllP];omega)|(simp(discharger:=omega)only[AllP,cA,cB];omega)|(simp only[AllP,cC,cD,cE,cF,cG];omega)) ?_|refine zn ?_|refine zb ?_|refine ze rfl ?_|refine zr ?_|refine zk ?_|refine zT rfl rfl rfl ?_|refine zU rfl rfl rfl ?_|refine zV rfl rfl rfl ?_|refine zf rfl ?_|refine zt rfl ?_)
    obtain ⟨w0, hw0⟩ : ∃ w0, w0 = w := ⟨_, rfl⟩
    rw [← hw0]
    have h : ReadS w0 ad (edgeV es) := by rw [hw0]; exact h
    have hI0 : BInv w0 n es.length ⟨0, zeroM n, p, bs, adr, capr, q, bq, Aq, [], none, 0, [], none, 0, [0]⟩ w4 := by
      rw [hw0]
      refine ⟨hr2.kp.trans hq3.kp, ⟨hr3, hq3.at_, zeroM_ok n, hr2.new, fun b hb => (by have := hq3.new b hb; have := hr2.kp.size; omega), fun b hb => ?_⟩, fun i j hb => (by rw [bitM_zero] at hb; cases hb), seqs_start hT3, rfl, (by simp), (by simp)⟩
      simp at hb; subst hb
      exact ⟨hr3.far, hq3.at_.far⟩
    clear hr3 hq3 hT3 hT2 hr2 hT hw0
    refine r_loop (α := BG) [1, 5, 7, 9, 10, 11] (fun g => [.slice ad es.length c, ptr g.p, ptr g.q, .slice g.adS g.sqs.length g.capS, .slice g.adW g.wts.length g.capW, I g.i]) (fun g wc => BInv w0 n es.length g wc) (fun g => es.length - g.i) _ rfl hI0 ?_
    clear hI0
    rintro g e wc hI
    have hle := hI.le
    (repeat first|refine zA ?_|refine zB ?_|refine zC ?_|refine zD ?_|refine zE ?_|refine zg ?_|refine zo rfl rfl (by first|exact trivial|(simp only[AllP];omega)|(simp(discharger:=omega)only[AllP,cA,cB];omega)|(simp only[AllP,cC,cD,cE,cF,cG];omega)) ?_|refine zn ?_|refine zb ?_|refine ze rfl ?_|refine zr ?_|refine zk ?_|refine zT rfl rfl rfl ?_|refine zU rfl rfl rfl ?_|refine zV rfl rfl rfl ?_|refine zf rfl ?_|refine zt rfl ?_)
    refine r_if rfl (fun hc => ?_) (fun hc => ?_)
    · have hlt : g.i < es.length := by omega
      obtain ⟨x0, hx0⟩ : ∃ x, es[g.i]? = some x := ⟨_, List.getElem?_eq_getElem hlt⟩
      obtain ⟨d, x, y⟩ := x0
      obtain ⟨hrd, hrx, hry⟩ := hrng _ (List.mem_of_getElem? hx0)
      dsimp only at hrd hrx hry
      obtain ⟨b, off, rfl, hb, hcell⟩ := h.at_ (by rw [edgeV_len]; omega)
      (repeat first|refine zA ?_|refine zB ?_|refine zC ?_|refine zD ?_|refine zE ?_|refine zg ?_|refine zo rfl rfl (by first|exact trivial|(simp only[AllP];omega)|(simp(discharger:=omega)only[AllP,cA,cB];omega)|(simp only[AllP,cC,cD,cE,cF,cG];omega)) ?_|refine zn ?_|refine zb ?_|refine ze rfl ?_|refine zr ?_|refine zk ?_|refine zT rfl rfl rfl ?_|refine zU rfl rfl rfl ?_|refine zV rfl rfl rfl ?_|refine zf rfl ?_|refine zt rfl ?_)
      refine o_loadA (vs := [I d, I x, I y]) rfl (fun j v hv => ?_) rfl rfl rfl rfl rfl rfl ?_
      · have h1 := hcell _ _ (edgeV_get hx0 j v hv)
        rw [Nat.add_assoc, ← h1]
        exact World.cell?_of_block (hI.kp.at_ b hb (by simp))
      (repeat first|refine zA ?_|refine zB ?_|refine zC ?_|refine zD ?_|refine zE ?_|refine zg ?_|refine zo rfl rfl (by first|exact trivial|(simp only[AllP];omega)|(simp(discharger:=omega)only[AllP,cA,cB];omega)|(simp only[AllP,cC,cD,cE,cF,cG];omega)) ?_|refine zn ?_|refine zb ?_|refine ze rfl ?_|refine zr ?_|refine zk ?_|refine zT rfl rfl rfl ?_|refine zU rfl rfl rfl ?_|refine zV rfl rfl rfl ?_|refine zf rfl ?_|refine zt rfl ?_)
      refine o_alloc rfl rfl rfl rfl ?_
      intro bx w5 hbx hu5
      refine o_storeA (cs := [I d, I x, I y]) rfl hu5.blk (by show 0 + 3 ≤ 3; omega) rfl (by simp [Value.oneCell']) rfl rfl rfl rfl ?_
      intro w6 hu6
      have k6 : Kp [] wc w6 := (hu5.kp [] (.inr (by omega))).since (hu6.kp [bx] (.inl (by simp))) (by simp; omega)
      have hX6 : Blk w6 bx [I d, I x, I y] 56 := hu6.blk
      have kk6 := hI.kp.trans k6
      have hS6 := hI.seqs.kp0 k6
      have hR6 := hI.rel.kp0 k6
      have hM := hR6.rel.mok
      have hin := hI.inb
      have xrel := blk_rel hR6.rel hX6 (by decide) (by decide) (by decide)
      have xrr := blk_rr hR6.rr hX6 (by decide) (by decide) (by decide)
      have next : ∀ (M' : List (List Nat)) (p' : Nat) (bs' : List Nat) (ad' : Option Addr) (cap' q' bq' : Nat) (Aq' : Nat → Option Addr × Nat) (w' : World), Kp [] w0 w' → BRel w0 w' g.Cst n p' bs' M' ad' cap' q' bq' Aq' M' → InB n M' → Seqs w0 w' g.sqs g.adS g.capS g.wts g.adW g.capW g.Cst → BInv w0 n es.length { g with i := g.i + 1, M := M', p := p', bs := bs', ad := ad', cap := cap', q := q', bq := bq', Aq := Aq' } w' :=
        fun M' p' bs' ad' cap' q' bq' Aq' w' h1 h2 h3 h4 => ⟨h1, h2, h3, h4, hI.same, by have := hI.few; show g.sqs.length ≤ g.i + 1; omega, by show g.i + 1 ≤ es.length; omega⟩
      -- what has been turned in the two relations' own memory
      have relS : ∀ {M1 : List (List Nat)} {w1 w2 : World} {S1 : Seqs w0 w1 g.sqs g.adS g.capS g.wts g.adW g.capW g.Cst} {B1 : BRel w0 w1 g.Cst n g.p g.bs M1 g.ad g.cap g.q g.bq g.Aq g.M}, Kp (relBlks g.p g.ad g.bs) w1 w2 → Seqs w0 w2 g.sqs g.adS g.capS g.wts g.adW g.capW g.Cst := fun {M1 w1 w2 S1 B1} hk =>
        S1.kp hk (fun b hb => (B1.dis b hb).1) (own_rel B1.rel S1.sq (by decide) (by decide) (by decide)) (own_rel B1.rel S1.wt (by decide) (by decide) (by decide))
      have rrS : ∀ {M1 : List (List Nat)} {w1 w2 : World} {S1 : Seqs w0 w1 g.sqs g.adS g.capS g.wts g.adW g.capW g.Cst} {B1 : BRel w0 w1 g.Cst n g.p g.bs M1 g.ad g.cap g.q g.bq g.Aq g.M}, Kp (rrBlks g.q g.bq n g.Aq) w1 w2 → Seqs w0 w2 g.sqs g.adS g.capS g.wts g.adW g.capW g.Cst := fun {M1 w1 w2 S1 B1} hk =>
        S1.kp hk (fun b hb => (B1.dis b hb).2) (own_rr B1.rr S1.sq (by decide) (by decide) (by decide)) (own_rr B1.rr S1.wt (by decide) (by decide) (by decide))
      (repeat first|refine zA ?_|refine zB ?_|refine zC ?_|refine zD ?_|refine zE ?_|refine zg ?_|refine zo rfl rfl (by first|exact trivial|(simp only[AllP];omega)|(simp(discharger:=omega)only[AllP,cA,cB];omega)|(simp only[AllP,cC,cD,cE,cF,cG];omega)) ?_|refine zn ?_|refine zb ?_|refine ze rfl ?_|refine zr ?_|refine zk ?_|refine zT rfl rfl rfl ?_|refine zU rfl rfl rfl ?_|refine zV rfl rfl rfl ?_|refine zf rfl ?_|refine zt rfl ?_)
      refine o_load rfl hX6 rfl rfl rfl rfl rfl ?_
      (repeat first|refine zA ?_|refine zB ?_|refine zC ?_|refine zD ?_|refine zE ?_|refine zg ?_|refine zo rfl rfl (by first|exact trivial|(simp only[AllP];omega)|(simp(discharger:=omega)only[AllP,cA,cB];omega)|(simp only[AllP,cC,cD,cE,cF,cG];omega)) ?_|refine zn ?_|refine zb ?_|refine ze rfl ?_|refine zr ?_|refine zk ?_|refine zT rfl rfl rfl ?_|refine zU rfl rfl rfl ?_|refine zV rfl rfl rfl ?_|refine zf rfl ?_|refine zt rfl ?_)
      refine r_if (p := d = 0) rfl (fun hd0 => ?_) (fun hd0 => ?_)
      · (repeat first|refine zA ?_|refine zB ?_|refine zC ?_|refine zD ?_|refine zE ?_|refine zg ?_|refine zo rfl rfl (by first|exact trivial|(simp only[AllP];omega)|(simp(discharger:=omega)only[AllP,cA,cB];omega)|(simp only[AllP,cC,cD,cE,cF,cG];omega)) ?_|refine zn ?_|refine zb ?_|refine ze rfl ?_|refine zr ?_|refine zk ?_|refine zT rfl rfl rfl ?_|refine zU rfl rfl rfl ?_|refine zV rfl rfl rfl ?_|refine zf rfl ?_|refine zt rfl ?_)
        refine r_seq ?_
        refine r_mix (fun w' => Blk w' bx [I d, I x, I y] 56) [(0, false), (1, false), (2, false), (3, false), (4, false), (7, false), (8, false), (9, false), (10, false), (11, false), (5, true), (6, true), (12, true), (13, false)] follows_mixed (by kernel_rfl) (by kernel_rfl) (by kernel_rfl) ((Sm.drew w6).blk hX6) ?_
        have kd := (Sm.drew w6).kp []
        have hX6 := kd.blk (by simp) hX6
        have hS6 := hS6.kp0 kd
        have kk6 := kk6.trans kd
        have hR6 := hR6.kp0 kd
        generalize ({ w6 with drawn := w6.drawn + 1 } : World) = w6 at hR6 hX6 hS6 kk6 ⊢
        (repeat first|refine xo rfl rfl (by first|exact trivial|(simp only[AllP];omega)|(simp(discharger:=omega)only[AllP,cA,cB];omega)|(simp only[AllP,cC,cD,cE,cF,cG];omega)) ?_|refine xn ?_|refine x_know rfl _ _ (some true) rfl rfl rfl ?_|refine x_know rfl _ _ (some false) rfl rfl rfl ?_|refine x_know rfl _ _ none rfl rfl rfl ?_)
        refine x_load rfl rfl (fun w' h' => h'.cell rfl) rfl rfl rfl rfl ?_
        (repeat first|refine xo rfl rfl (by first|exact trivial|(simp only[AllP];omega)|(simp(discharger:=omega)only[AllP,cA,cB];omega)|(simp only[AllP,cC,cD,cE,cF,cG];omega)) ?_|refine xn ?_|refine x_know rfl _ _ (some true) rfl rfl rfl ?_|refine x_know rfl _ _ (some false) rfl rfl rfl ?_|refine x_know rfl _ _ none rfl rfl rfl ?_)
        refine x_load rfl rfl (fun w' h' => h'.cell rfl) rfl rfl rfl rfl ?_
        (repeat first|refine xo rfl rfl (by first|exact trivial|(simp only[AllP];omega)|(simp(discharger:=omega)only[AllP,cA,cB];omega)|(simp only[AllP,cC,cD,cE,cF,cG];omega)) ?_|refine xn ?_|refine x_know rfl _ _ (some true) rfl rfl rfl ?_|refine x_know rfl _ _ (some false) rfl rfl rfl ?_|refine x_know rfl _ _ none rfl rfl rfl ?_)
        refine x_load rfl rfl (fun w' h' => h'.cell rfl) rfl rfl rfl rfl ?_
        (repeat first|refine xo rfl rfl (by first|exact trivial|(simp only[AllP];omega)|(simp(discharger:=omega)only[AllP,cA,cB];omega)|(simp only[AllP,cC,cD,cE,cF,cG];omega)) ?_|refine xn ?_|refine x_know rfl _ _ (some true) rfl rfl rfl ?_|refine x_know rfl _ _ (some false) rfl rfl rfl ?_|refine x_know rfl _ _ none rfl rfl rfl ?_)
        refine x_load rfl rfl (fun w' h' => h'.cell rfl) rfl rfl rfl rfl ?_
        (repeat first|refine xo rfl rfl (by first|exact trivial|(simp only[AllP];omega)|(simp(discharger:=omega)only[AllP,cA,cB];omega)|(simp only[AllP,cC,cD,cE,cF,cG];omega)) ?_|refine xn ?_|refine x_know rfl _ _ (some true) rfl rfl rfl ?_|refine x_know rfl _ _ (some false) rfl rfl rfl ?_|refine x_know rfl _ _ none rfl rfl rfl ?_)
        cases hnv : (nodeB n x && nodeB n y) with
        | false =>
          refine x_act rfl ?_
          refine o_call (Link_bad hR6.rel hnv) rfl rfl rfl ?_
          rintro v w7 ⟨rfl, rfl⟩
          refine o_nil ⟨.inr hX6, ?_⟩
          refine x_act rfl ?_
          refine o_call (num_ret 2) rfl rfl rfl ?_
          rintro v w8 ⟨rfl, rfl⟩
          refine o_nil ⟨.inr hX6, ?_⟩
          refine x_act rfl ?_
          refine o_call (rLink_bad hR6.rr hnv) rfl rfl rfl ?_
          rintro v w7 ⟨rfl, rfl⟩
          refine o_nil ⟨.inr hX6, ?_⟩
          (repeat first|refine xo rfl rfl (by first|exact trivial|(simp only[AllP];omega)|(simp(discharger:=omega)only[AllP,cA,cB];omega)|(simp only[AllP,cC,cD,cE,cF,cG];omega)) ?_|refine xn ?_|refine x_know rfl _ _ (some true) rfl rfl rfl ?_|refine x_know rfl _ _ (some false) rfl rfl rfl ?_|refine x_know rfl _ _ none rfl rfl rfl ?_)
          (repeat first|refine zA ?_|refine zB ?_|refine zC ?_|refine zD ?_|refine zE ?_|refine zg ?_|refine zo rfl rfl (by first|exact trivial|(simp only[AllP];omega)|(simp(discharger:=omega)only[AllP,cA,cB];omega)|(simp only[AllP,cC,cD,cE,cF,cG];omega)) ?_|refine zn ?_|refine zb ?_|refine ze rfl ?_|refine zr ?_|refine zk ?_|refine zT rfl rfl rfl ?_|refine zU rfl rfl rfl ?_|refine zV rfl rfl rfl ?_|refine zf rfl ?_|refine zt rfl ?_)
          exact ⟨_, rfl, next _ _ _ _ _ _ _ _ _ kk6 hR6 hin hS6, by dsimp only; omega⟩
        | true =>
          rw [Bool.and_eq_true] at hnv
          obtain ⟨xi, hxi, hxn⟩ := nodeB_nat hnv.1
          obtain ⟨yj, hyj, hyn⟩ := nodeB_nat hnv.2
          have hL : Ret Tryd.prog 29 [ptr g.p, I x, I y] w6 (fun v w' => v = I 0 ∧ RelTo w6 g.p n g.bs g.ad g.cap w' (linkM g.M xi yj)) := by
            rw [hxi, hyj]; exact Link_ret hR6.rel hxn hyn
          refine x_act rfl ?_
          refine o_call hL rfl rfl rfl ?_
          rintro v w7 ⟨rfl, hto⟩
          have hX7 := hto.kp.blk (blk_rel hR6.rel hX6 (by decide) (by decide) (by decide)) hX6
          have hR7 := hR6.relTo hto
          have hS7 := relS (S1 := hS6) (B1 := hR6) hto.kp
          have kk7 : Kp [] w0 w7 := kk6.since hto.kp hR6.newR
          refine o_nil ⟨.inr hX7, ?_⟩
          refine x_act rfl ?_
          refine o_call (num_ret 0) rfl rfl rfl ?_
          rintro v w8 ⟨rfl, rfl⟩
          refine o_nil ⟨.inr hX7, ?_⟩
          refine x_act rfl ?_
          have hL2 : Ret Tryd.prog 37 [ptr g.q, I x, I y] w8 (fun v w' => v = I 0 ∧ ∃ As', RRTo w8 g.q g.bq n g.Aq w' g.bq As' (linkM g.M xi yj)) := by
            rw [hxi, hyj]; exact rLink_ret hS7.tab hR7.rr hR7.nok hin hxn hyn
          refine o_call hL2 rfl rfl rfl ?_
          rintro v w9 ⟨rfl, As', hto2⟩
          have hX9 := hto2.kp.blk (blk_rr hR7.rr hX7 (by decide) (by decide) (by decide)) hX7
          have hok := linkM_ok hM hxn hyn
          have hR9 := hR7.rrTo kk7 hS7.lt hto2 hok
          have hS9 := rrS (S1 := hS7) (B1 := hR7) hto2.kp
          have kk9 : Kp [] w0 w9 := kk7.since hto2.kp hR7.newQ
          refine o_nil ⟨.inr hX9, ?_⟩
          (repeat first|refine xo rfl rfl (by first|exact trivial|(simp only[AllP];omega)|(simp(discharger:=omega)only[AllP,cA,cB];omega)|(simp only[AllP,cC,cD,cE,cF,cG];omega)) ?_|refine xn ?_|refine x_know rfl _ _ (some true) rfl rfl rfl ?_|refine x_know rfl _ _ (some false) rfl rfl rfl ?_|refine x_know rfl _ _ none rfl rfl rfl ?_)
          (repeat first|refine zA ?_|refine zB ?_|refine zC ?_|refine zD ?_|refine zE ?_|refine zg ?_|refine zo rfl rfl (by first|exact trivial|(simp only[AllP];omega)|(simp(discharger:=omega)only[AllP,cA,cB];omega)|(simp only[AllP,cC,cD,cE,cF,cG];omega)) ?_|refine zn ?_|refine zb ?_|refine ze rfl ?_|refine zr ?_|refine zk ?_|refine zT rfl rfl rfl ?_|refine zU rfl rfl rfl ?_|refine zV rfl rfl rfl ?_|refine zf rfl ?_|refine zt rfl ?_)
          refine ⟨_, rfl, next _ _ _ _ _ _ _ _ _ kk9 hR9 (fun a b hb => ?_) hS9, by dsimp only; omega⟩
          rw [bitM_linkM hM hxn hyn, Bool.or_eq_true, decide_eq_true_eq] at hb
          rcases hb with hb | ⟨_, rfl⟩
          · exact hin a b hb
          · exact hyn
      (repeat first|refine zA ?_|refine zB ?_|refine zC ?_|refine zD ?_|refine zE ?_|refine zg ?_|refine zo rfl rfl (by first|exact trivial|(simp only[AllP];omega)|(simp(discharger:=omega)only[AllP,cA,cB];omega)|(simp only[AllP,cC,cD,cE,cF,cG];omega)) ?_|refine zn ?_|refine zb ?_|refine ze rfl ?_|refine zr ?_|refine zk ?_|refine zT rfl rfl rfl ?_|refine zU rfl rfl rfl ?_|refine zV rfl rfl rfl ?_|refine zf rfl ?_|refine zt rfl ?_)
      refine r_if (p := d = 1) rfl (fun hd1 => ?_) (fun hd1 => ?_)
      · (repeat first|refine zA ?_|refine zB ?_|refine zC ?_|refine zD ?_|refine zE ?_|refine zg ?_|refine zo rfl rfl (by first|exact trivial|(simp only[AllP];omega)|(simp(discharger:=omega)only[AllP,cA,cB];omega)|(simp only[AllP,cC,cD,cE,cF,cG];omega)) ?_|refine zn ?_|refine zb ?_|refine ze rfl ?_|refine zr ?_|refine zk ?_|refine zT rfl rfl rfl ?_|refine zU rfl rfl rfl ?_|refine zV rfl rfl rfl ?_|refine zf rfl ?_|refine zt rfl ?_)
        refine o_load rfl hX6 rfl rfl rfl rfl rfl ?_
        (repeat first|refine zA ?_|refine zB ?_|refine zC ?_|refine zD ?_|refine zE ?_|refine zg ?_|refine zo rfl rfl (by first|exact trivial|(simp only[AllP];omega)|(simp(discharger:=omega)only[AllP,cA,cB];omega)|(simp only[AllP,cC,cD,cE,cF,cG];omega)) ?_|refine zn ?_|refine zb ?_|refine ze rfl ?_|refine zr ?_|refine zk ?_|refine zT rfl rfl rfl ?_|refine zU rfl rfl rfl ?_|refine zV rfl rfl rfl ?_|refine zf rfl ?_|refine zt rfl ?_)
        cases hnx : nodeB n x with
        | true =>
          obtain ⟨xi, hxi, hxn⟩ := nodeB_nat hnx
          have hRow : Ret Tryd.prog 38 [ptr g.p, I x] w6 (fun v w' => ∃ q ad' cap', v = .tuple #[ptr q, I 0] ∧ NewSet w6 q w' (trim (g.M.getD xi [])) ad' cap') := by
            rw [hxi]; exact Row_ret hS6.tab hR6.rel hxn
          refine o_call hRow rfl rfl rfl ?_
          rintro v w7 ⟨ps, ads, caps, rfl, hset⟩
          have hX7 := hset.kp.blk (by simp) hX6
          have hR7 := hR6.kp0 hset.kp
          have hS7 := hS6.kp0 hset.kp
          (repeat first|refine zA ?_|refine zB ?_|refine zC ?_|refine zD ?_|refine zE ?_|refine zg ?_|refine zo rfl rfl (by first|exact trivial|(simp only[AllP];omega)|(simp(discharger:=omega)only[AllP,cA,cB];omega)|(simp only[AllP,cC,cD,cE,cF,cG];omega)) ?_|refine zn ?_|refine zb ?_|refine ze rfl ?_|refine zr ?_|refine zk ?_|refine zT rfl rfl rfl ?_|refine zU rfl rfl rfl ?_|refine zV rfl rfl rfl ?_|refine zf rfl ?_|refine zt rfl ?_)
          refine o_load rfl hX7 rfl rfl rfl rfl rfl ?_
          (repeat first|refine zA ?_|refine zB ?_|refine zC ?_|refine zD ?_|refine zE ?_|refine zg ?_|refine zo rfl rfl (by first|exact trivial|(simp only[AllP];omega)|(simp(discharger:=omega)only[AllP,cA,cB];omega)|(simp only[AllP,cC,cD,cE,cF,cG];omega)) ?_|refine zn ?_|refine zb ?_|refine ze rfl ?_|refine zr ?_|refine zk ?_|refine zT rfl rfl rfl ?_|refine zU rfl rfl rfl ?_|refine zV rfl rfl rfl ?_|refine zf rfl ?_|refine zt rfl ?_)
          have hRow2 : Ret Tryd.prog 39 [ptr g.q, I x] w7 (fun v w' => ∃ q ad' cap', v = .tuple #[ptr q, I 0] ∧ NewRef w7 q w' (rowsF g.M xi) ad' cap') := by
            rw [hxi]; exact rRow_ret hS7.tab hR7.rr hR7.nok hxn
          refine o_call hRow2 rfl rfl rfl ?_
          rintro v w8 ⟨pr, adr, capr, rfl, href⟩
          have hX8 := href.kp.blk (by simp) hX7
          have hset8 := hset.at_.kp href.kp (by simp)
          have hR8 := hR7.kp0 href.kp
          have hS8 := hS7.kp0 href.kp
          have hrl := rowsF_len hM hR6.rel.small xi
          have hsl := hset.at_.len
          (repeat first|refine zA ?_|refine zB ?_|refine zC ?_|refine zD ?_|refine zE ?_|refine zg ?_|refine zo rfl rfl (by first|exact trivial|(simp only[AllP];omega)|(simp(discharger:=omega)only[AllP,cA,cB];omega)|(simp only[AllP,cC,cD,cE,cF,cG];omega)) ?_|refine zn ?_|refine zb ?_|refine ze rfl ?_|refine zr ?_|refine zk ?_|refine zT rfl rfl rfl ?_|refine zU rfl rfl rfl ?_|refine zV rfl rfl rfl ?_|refine zf rfl ?_|refine zt rfl ?_)
          refine r_seq ?_
          refine r_seq ?_
          refine r_mix (fun w' => Blk w' bx [I d, I x, I y] 56) [(0, false), (1, false), (2, false), (3, false), (4, false), (6, false), (7, false), (8, false), (9, false), (10, false), (5, true), (11, true), (12, false), (13, false), (14, false), (16, false), (15, true), (17, false), (18, false), (19, false), (20, false), (21, false), (22, false), (23, false), (24, false), (25, false), (26, false), (27, false), (29, false), (28, true), (30, true), (31, true), (32, false), (33, false)] follows_mixed (by kernel_rfl) (by kernel_rfl) (by kernel_rfl) ((Sm.drew w8).blk hX8) ?_
          have kd := (Sm.drew w8).kp []
          have hX9 := kd.blk (by simp) hX8
          have hR9 := hR8.kp0 kd
          have hS9 := hS8.kp0 kd
          have hset9 := hset8.kp kd (by simp)
          have href9 := href.at_.kp kd (by simp)
          generalize ({ w8 with drawn := w8.drawn + 1 } : World) = w9 at hR9 hS9 hset9 href9 hX9 kd ⊢
          (repeat first|refine xo rfl rfl (by first|exact trivial|(simp only[AllP];omega)|(simp(discharger:=omega)only[AllP,cA,cB];omega)|(simp only[AllP,cC,cD,cE,cF,cG];omega)) ?_|refine xn ?_|refine x_know rfl _ _ (some true) rfl rfl rfl ?_|refine x_know rfl _ _ (some false) rfl rfl rfl ?_|refine x_know rfl _ _ none rfl rfl rfl ?_)
          refine x_load rfl rfl (fun w' h' => h'.cell rfl) rfl rfl rfl rfl ?_
          (repeat first|refine xo rfl rfl (by first|exact trivial|(simp only[AllP];omega)|(simp(discharger:=omega)only[AllP,cA,cB];omega)|(simp only[AllP,cC,cD,cE,cF,cG];omega)) ?_|refine xn ?_|refine x_know rfl _ _ (some true) rfl rfl rfl ?_|refine x_know rfl _ _ (some false) rfl rfl rfl ?_|refine x_know rfl _ _ none rfl rfl rfl ?_)
          refine x_load rfl rfl (fun w' h' => h'.cell rfl) rfl rfl rfl rfl ?_
          (repeat first|refine xo rfl rfl (by first|exact trivial|(simp only[AllP];omega)|(simp(discharger:=omega)only[AllP,cA,cB];omega)|(simp only[AllP,cC,cD,cE,cF,cG];omega)) ?_|refine xn ?_|refine x_know rfl _ _ (some true) rfl rfl rfl ?_|refine x_know rfl _ _ (some false) rfl rfl rfl ?_|refine x_know rfl _ _ none rfl rfl rfl ?_)
          refine x_load rfl rfl (fun w' h' => h'.cell rfl) rfl rfl rfl rfl ?_
          (repeat first|refine xo rfl rfl (by first|exact trivial|(simp only[AllP];omega)|(simp(discharger:=omega)only[AllP,cA,cB];omega)|(simp only[AllP,cC,cD,cE,cF,cG];omega)) ?_|refine xn ?_|refine x_know rfl _ _ (some true) rfl rfl rfl ?_|refine x_know rfl _ _ (some false) rfl rfl rfl ?_|refine x_know rfl _ _ none rfl rfl rfl ?_)
          refine x_load rfl rfl (fun w' h' => h'.cell rfl) rfl rfl rfl rfl ?_
          (repeat first|refine xo rfl rfl (by first|exact trivial|(simp only[AllP];omega)|(simp(discharger:=omega)only[AllP,cA,cB];omega)|(simp only[AllP,cC,cD,cE,cF,cG];omega)) ?_|refine xn ?_|refine x_know rfl _ _ (some true) rfl rfl rfl ?_|refine x_know rfl _ _ (some false) rfl rfl rfl ?_|refine x_know rfl _ _ none rfl rfl rfl ?_)
          refine x_act rfl ?_
          refine o_call (Linked_ret hR9.rel x y) rfl rfl rfl ?_
          rintro v wq ⟨rfl, rfl⟩
          refine o_nil ⟨.inr hX9, ?_⟩
          refine x_act rfl ?_
          refine o_call (rLinked_ret hR9.rr hR9.nok hin x y) rfl rfl rfl ?_
          rintro v wr ⟨rfl, rfl⟩
          refine o_nil ⟨.inr hX9, ?_⟩
          (repeat first|refine xo rfl rfl (by first|exact trivial|(simp only[AllP];omega)|(simp(discharger:=omega)only[AllP,cA,cB];omega)|(simp only[AllP,cC,cD,cE,cF,cG];omega)) ?_|refine xn ?_|refine x_know rfl _ _ (some true) rfl rfl rfl ?_|refine x_know rfl _ _ (some false) rfl rfl rfl ?_|refine x_know rfl _ _ none rfl rfl rfl ?_)
          refine x_is false rfl 13 false rfl rfl rfl (by cases linkedB n g.M x y <;> rfl) ?_
          (repeat first|refine xo rfl rfl (by first|exact trivial|(simp only[AllP];omega)|(simp(discharger:=omega)only[AllP,cA,cB];omega)|(simp only[AllP,cC,cD,cE,cF,cG];omega)) ?_|refine xn ?_|refine x_know rfl _ _ (some true) rfl rfl rfl ?_|refine x_know rfl _ _ (some false) rfl rfl rfl ?_|refine x_know rfl _ _ none rfl rfl rfl ?_)
          refine x_act rfl ?_
          refine o_call (num_ret 0) rfl rfl rfl ?_
          rintro v wq ⟨rfl, rfl⟩
          refine o_nil ⟨.inr hX9, ?_⟩
          (repeat first|refine xo rfl rfl (by first|exact trivial|(simp only[AllP];omega)|(simp(discharger:=omega)only[AllP,cA,cB];omega)|(simp only[AllP,cC,cD,cE,cF,cG];omega)) ?_|refine xn ?_|refine x_know rfl _ _ (some true) rfl rfl rfl ?_|refine x_know rfl _ _ (some false) rfl rfl rfl ?_|refine x_know rfl _ _ none rfl rfl rfl ?_)
          refine x_act rfl ?_
          refine o_call (List_ret hS9.tab hset9) rfl rfl rfl ?_
          rintro v w10 ⟨a10, c10, rfl, hn10⟩
          refine o_nil ⟨.inr (hn10.kp.blk (by simp) hX9), ?_⟩
          refine x_act rfl ?_
          refine o_call (refList_ret (href9.kp hn10.kp (by simp)) (by omega)) rfl rfl rfl ?_
          rintro v w11 ⟨a11, c11, rfl, hn11⟩
          have k911 := hn10.kp.trans hn11.kp
          refine o_nil ⟨.inr (k911.blk (by simp) hX9), ?_⟩
          refine x_act rfl ?_
          have e1 : elems (trim (g.M.getD xi [])) = rowsF g.M xi := elems_trim _
          have q1 := hn10.read.kp hn11.kp (by simp)
          have q2 := hn11.read
          rw [e1] at q1 ⊢
          rw [map_encI] at q1 q2
          refine o_call (same_yes q1 q2 (by simp) (by simp) (by omega)) rfl rfl rfl ?_
          rintro v w12 ⟨rfl, hs12⟩
          have k912 := k911.trans (hs12.kp [])
          have hX12 := k912.blk (by simp) hX9
          refine o_nil ⟨.inr hX12, ?_⟩
          (repeat first|refine xo rfl rfl (by first|exact trivial|(simp only[AllP];omega)|(simp(discharger:=omega)only[AllP,cA,cB];omega)|(simp only[AllP,cC,cD,cE,cF,cG];omega)) ?_|refine xn ?_|refine x_know rfl _ _ (some true) rfl rfl rfl ?_|refine x_know rfl _ _ (some false) rfl rfl rfl ?_|refine x_know rfl _ _ none rfl rfl rfl ?_)
          (repeat first|refine zA ?_|refine zB ?_|refine zC ?_|refine zD ?_|refine zE ?_|refine zg ?_|refine zo rfl rfl (by first|exact trivial|(simp only[AllP];omega)|(simp(discharger:=omega)only[AllP,cA,cB];omega)|(simp only[AllP,cC,cD,cE,cF,cG];omega)) ?_|refine zn ?_|refine zb ?_|refine ze rfl ?_|refine zr ?_|refine zk ?_|refine zT rfl rfl rfl ?_|refine zU rfl rfl rfl ?_|refine zV rfl rfl rfl ?_|refine zf rfl ?_|refine zt rfl ?_)
          have hset12 := hset9.kp k912 (by simp)
          have hT12 := hS9.tab.kp k912 (by simp)
          refine o_load rfl hX12 rfl rfl rfl rfl rfl ?_
          (repeat first|refine zA ?_|refine zB ?_|refine zC ?_|refine zD ?_|refine zE ?_|refine zg ?_|refine zo rfl rfl (by first|exact trivial|(simp only[AllP];omega)|(simp(discharger:=omega)only[AllP,cA,cB];omega)|(simp only[AllP,cC,cD,cE,cF,cG];omega)) ?_|refine zn ?_|refine zb ?_|refine ze rfl ?_|refine zr ?_|refine zk ?_|refine zT rfl rfl rfl ?_|refine zU rfl rfl rfl ?_|refine zV rfl rfl rfl ?_|refine zf rfl ?_|refine zt rfl ?_)
          obtain ⟨kx, hkx, hkx64⟩ := and63 x
          obtain ⟨ky, hky, hky64⟩ := and63 y
          rw [hkx]
          refine o_call (Put_ret hT12 hset12 (k := kx) (by omega)) rfl rfl rfl ?_
          rintro v w13 ⟨rfl, a13, c13, hto13⟩
          have hsx : bx ∉ ps :: blkOf ads := fun hb => by
            have := hset.new bx hb; have := hX6.lt; omega
          have hX13 := hto13.kp.blk hsx hX12
          (repeat first|refine zA ?_|refine zB ?_|refine zC ?_|refine zD ?_|refine zE ?_|refine zg ?_|refine zo rfl rfl (by first|exact trivial|(simp only[AllP];omega)|(simp(discharger:=omega)only[AllP,cA,cB];omega)|(simp only[AllP,cC,cD,cE,cF,cG];omega)) ?_|refine zn ?_|refine zb ?_|refine ze rfl ?_|refine zr ?_|refine zk ?_|refine zT rfl rfl rfl ?_|refine zU rfl rfl rfl ?_|refine zV rfl rfl rfl ?_|refine zf rfl ?_|refine zt rfl ?_)
          refine o_load rfl hX13 rfl rfl rfl rfl rfl ?_
          (repeat first|refine zA ?_|refine zB ?_|refine zC ?_|refine zD ?_|refine zE ?_|refine zg ?_|refine zo rfl rfl (by first|exact trivial|(simp only[AllP];omega)|(simp(discharger:=omega)only[AllP,cA,cB];omega)|(simp only[AllP,cC,cD,cE,cF,cG];omega)) ?_|refine zn ?_|refine zb ?_|refine ze rfl ?_|refine zr ?_|refine zk ?_|refine zT rfl rfl rfl ?_|refine zU rfl rfl rfl ?_|refine zV rfl rfl rfl ?_|refine zf rfl ?_|refine zt rfl ?_)
          rw [hky]
          refine o_call (Del_ret hto13.at_ (k := ky) (by omega)) rfl rfl rfl ?_
          rintro v w14 ⟨rfl, hto14⟩
          have hto := hto13.trans hto14
          have k614 : Kp [] w6 w14 := (((hset.kp.trans href.kp).trans kd).trans k912).since hto.kp hset.new
          (repeat first|refine zA ?_|refine zB ?_|refine zC ?_|refine zD ?_|refine zE ?_|refine zg ?_|refine zo rfl rfl (by first|exact trivial|(simp only[AllP];omega)|(simp(discharger:=omega)only[AllP,cA,cB];omega)|(simp only[AllP,cC,cD,cE,cF,cG];omega)) ?_|refine zn ?_|refine zb ?_|refine ze rfl ?_|refine zr ?_|refine zk ?_|refine zT rfl rfl rfl ?_|refine zU rfl rfl rfl ?_|refine zV rfl rfl rfl ?_|refine zf rfl ?_|refine zt rfl ?_)
          exact ⟨_, rfl, next _ _ _ _ _ _ _ _ _ (kk6.trans k614) (hR6.kp0 k614) hin (hS6.kp0 k614), by dsimp only; omega⟩
        | false =>
          refine o_call (Row_bad hR6.rel hnx) rfl rfl rfl ?_
          rintro v w7 ⟨rfl, rfl⟩
          (repeat first|refine zA ?_|refine zB ?_|refine zC ?_|refine zD ?_|refine zE ?_|refine zg ?_|refine zo rfl rfl (by first|exact trivial|(simp only[AllP];omega)|(simp(discharger:=omega)only[AllP,cA,cB];omega)|(simp only[AllP,cC,cD,cE,cF,cG];omega)) ?_|refine zn ?_|refine zb ?_|refine ze rfl ?_|refine zr ?_|refine zk ?_|refine zT rfl rfl rfl ?_|refine zU rfl rfl rfl ?_|refine zV rfl rfl rfl ?_|refine zf rfl ?_|refine zt rfl ?_)
          refine o_load rfl hX6 rfl rfl rfl rfl rfl ?_
          (repeat first|refine zA ?_|refine zB ?_|refine zC ?_|refine zD ?_|refine zE ?_|refine zg ?_|refine zo rfl rfl (by first|exact trivial|(simp only[AllP];omega)|(simp(discharger:=omega)only[AllP,cA,cB];omega)|(simp only[AllP,cC,cD,cE,cF,cG];omega)) ?_|refine zn ?_|refine zb ?_|refine ze rfl ?_|refine zr ?_|refine zk ?_|refine zT rfl rfl rfl ?_|refine zU rfl rfl rfl ?_|refine zV rfl rfl rfl ?_|refine zf rfl ?_|refine zt rfl ?_)
          refine o_call (rRow_bad hR6.rr hnx) rfl rfl rfl ?_
          rintro v w8 ⟨rfl, rfl⟩
          have hX8 := hX6
          (repeat first|refine zA ?_|refine zB ?_|refine zC ?_|refine zD ?_|refine zE ?_|refine zg ?_|refine zo rfl rfl (by first|exact trivial|(simp only[AllP];omega)|(simp(discharger:=omega)only[AllP,cA,cB];omega)|(simp only[AllP,cC,cD,cE,cF,cG];omega)) ?_|refine zn ?_|refine zb ?_|refine ze rfl ?_|refine zr ?_|refine zk ?_|refine zT rfl rfl rfl ?_|refine zU rfl rfl rfl ?_|refine zV rfl rfl rfl ?_|refine zf rfl ?_|refine zt rfl ?_)
          refine r_seq ?_
          refine r_seq ?_
          refine r_mix (fun w' => Blk w' bx [I d, I x, I y] 56) [(0, false), (1, false), (2, false), (3, false), (4, false), (6, false), (7, false), (8, false), (9, false), (10, false), (5, true), (11, true), (12, false), (13, false), (14, false), (16, false), (15, true), (17, false), (18, false), (19, false), (20, false), (21, false), (22, false), (23, false), (24, false), (25, false), (26, false), (27, false), (29, false), (28, true), (30, true), (31, true), (32, false), (33, false)] follows_mixed (by kernel_rfl) (by kernel_rfl) (by kernel_rfl) ((Sm.drew w8).blk hX8) ?_
          have kd := (Sm.drew w8).kp []
          have hX9 := kd.blk (by simp) hX8
          have hR9 := hR6.kp0 kd
          have hS9 := hS6.kp0 kd
          generalize ({ w8 with drawn := w8.drawn + 1 } : World) = w9 at hR9 hS9 hX9 kd ⊢
          (repeat first|refine xo rfl rfl (by first|exact trivial|(simp only[AllP];omega)|(simp(discharger:=omega)only[AllP,cA,cB];omega)|(simp only[AllP,cC,cD,cE,cF,cG];omega)) ?_|refine xn ?_|refine x_know rfl _ _ (some true) rfl rfl rfl ?_|refine x_know rfl _ _ (some false) rfl rfl rfl ?_|refine x_know rfl _ _ none rfl rfl rfl ?_)
          refine x_load rfl rfl (fun w' h' => h'.cell rfl) rfl rfl rfl rfl ?_
          (repeat first|refine xo rfl rfl (by first|exact trivial|(simp only[AllP];omega)|(simp(discharger:=omega)only[AllP,cA,cB];omega)|(simp only[AllP,cC,cD,cE,cF,cG];omega)) ?_|refine xn ?_|refine x_know rfl _ _ (some true) rfl rfl rfl ?_|refine x_know rfl _ _ (some false) rfl rfl rfl ?_|refine x_know rfl _ _ none rfl rfl rfl ?_)
          refine x_load rfl rfl (fun w' h' => h'.cell rfl) rfl rfl rfl rfl ?_
          (repeat first|refine xo rfl rfl (by first|exact trivial|(simp only[AllP];omega)|(simp(discharger:=omega)only[AllP,cA,cB];omega)|(simp only[AllP,cC,cD,cE,cF,cG];omega)) ?_|refine xn ?_|refine x_know rfl _ _ (some true) rfl rfl rfl ?_|refine x_know rfl _ _ (some false) rfl rfl rfl ?_|refine x_know rfl _ _ none rfl rfl rfl ?_)
          refine x_load rfl rfl (fun w' h' => h'.cell rfl) rfl rfl rfl rfl ?_
          (repeat first|refine xo rfl rfl (by first|exact trivial|(simp only[AllP];omega)|(simp(discharger:=omega)only[AllP,cA,cB];omega)|(simp only[AllP,cC,cD,cE,cF,cG];omega)) ?_|refine xn ?_|refine x_know rfl _ _ (some true) rfl rfl rfl ?_|refine x_know rfl _ _ (some false) rfl rfl rfl ?_|refine x_know rfl _ _ none rfl rfl rfl ?_)
          refine x_load rfl rfl (fun w' h' => h'.cell rfl) rfl rfl rfl rfl ?_
          (repeat first|refine xo rfl rfl (by first|exact trivial|(simp only[AllP];omega)|(simp(discharger:=omega)only[AllP,cA,cB];omega)|(simp only[AllP,cC,cD,cE,cF,cG];omega)) ?_|refine xn ?_|refine x_know rfl _ _ (some true) rfl rfl rfl ?_|refine x_know rfl _ _ (some false) rfl rfl rfl ?_|refine x_know rfl _ _ none rfl rfl rfl ?_)
          refine x_act rfl ?_
          refine o_call (Linked_ret hR9.rel x y) rfl rfl rfl ?_
          rintro v wq ⟨rfl, rfl⟩
          refine o_nil ⟨.inr hX9, ?_⟩
          refine x_act rfl ?_
          refine o_call (rLinked_ret hR9.rr hR9.nok hin x y) rfl rfl rfl ?_
          rintro v wr ⟨rfl, rfl⟩
          refine o_nil ⟨.inr hX9, ?_⟩
          (repeat first|refine xo rfl rfl (by first|exact trivial|(simp only[AllP];omega)|(simp(discharger:=omega)only[AllP,cA,cB];omega)|(simp only[AllP,cC,cD,cE,cF,cG];omega)) ?_|refine xn ?_|refine x_know rfl _ _ (some true) rfl rfl rfl ?_|refine x_know rfl _ _ (some false) rfl rfl rfl ?_|refine x_know rfl _ _ none rfl rfl rfl ?_)
          refine x_is false rfl 13 false rfl rfl rfl (by cases linkedB n g.M x y <;> rfl) ?_
          (repeat first|refine xo rfl rfl (by first|exact trivial|(simp only[AllP];omega)|(simp(discharger:=omega)only[AllP,cA,cB];omega)|(simp only[AllP,cC,cD,cE,cF,cG];omega)) ?_|refine xn ?_|refine x_know rfl _ _ (some true) rfl rfl rfl ?_|refine x_know rfl _ _ (some false) rfl rfl rfl ?_|refine x_know rfl _ _ none rfl rfl rfl ?_)
          refine x_act rfl ?_
          refine o_call (num_ret 2) rfl rfl rfl ?_
          rintro v wq ⟨rfl, rfl⟩
          refine o_nil ⟨.inr hX9, ?_⟩
          (repeat first|refine xo rfl rfl (by first|exact trivial|(simp only[AllP];omega)|(simp(discharger:=omega)only[AllP,cA,cB];omega)|(simp only[AllP,cC,cD,cE,cF,cG];omega)) ?_|refine xn ?_|refine x_know rfl _ _ (some true) rfl rfl rfl ?_|refine x_know rfl _ _ (some false) rfl rfl rfl ?_|refine x_know rfl _ _ none rfl rfl rfl ?_)
          refine x_act rfl ?_
          refine o_call (List_nil hS9.tab) rfl rfl rfl ?_
          rintro v w10 ⟨a10, c10, rfl, hn10⟩
          refine o_nil ⟨.inr (hn10.kp.blk (by simp) hX9), ?_⟩
          refine x_act rfl ?_
          refine o_call refList_nil rfl rfl rfl ?_
          rintro v w11 ⟨rfl, rfl⟩
          refine o_nil ⟨.inr (hn10.kp.blk (by simp) hX9), ?_⟩
          refine x_act rfl ?_
          refine o_call (same_yes (l := []) (ad2 := none) (n1 := 0) (n2 := 0) hn10.read rfl rfl rfl (by omega)) rfl rfl rfl ?_
          rintro v w12 ⟨rfl, hs12⟩
          have k912 := hn10.kp.trans (hs12.kp [])
          refine o_nil ⟨.inr (k912.blk (by simp) hX9), ?_⟩
          (repeat first|refine xo rfl rfl (by first|exact trivial|(simp only[AllP];omega)|(simp(discharger:=omega)only[AllP,cA,cB];omega)|(simp only[AllP,cC,cD,cE,cF,cG];omega)) ?_|refine xn ?_|refine x_know rfl _ _ (some true) rfl rfl rfl ?_|refine x_know rfl _ _ (some false) rfl rfl rfl ?_|refine x_know rfl _ _ none rfl rfl rfl ?_)
          (repeat first|refine zA ?_|refine zB ?_|refine zC ?_|refine zD ?_|refine zE ?_|refine zg ?_|refine zo rfl rfl (by first|exact trivial|(simp only[AllP];omega)|(simp(discharger:=omega)only[AllP,cA,cB];omega)|(simp only[AllP,cC,cD,cE,cF,cG];omega)) ?_|refine zn ?_|refine zb ?_|refine ze rfl ?_|refine zr ?_|refine zk ?_|refine zT rfl rfl rfl ?_|refine zU rfl rfl rfl ?_|refine zV rfl rfl rfl ?_|refine zf rfl ?_|refine zt rfl ?_)
          have k612 := kd.trans k912
          exact ⟨_, rfl, next _ _ _ _ _ _ _ _ _ (kk6.trans k612) (hR6.kp0 k612) hin (hS6.kp0 k612), by dsimp only; omega⟩
      (repeat first|refine zA ?_|refine zB ?_|refine zC ?_|refine zD ?_|refine zE ?_|refine zg ?_|refine zo rfl rfl (by first|exact trivial|(simp only[AllP];omega)|(simp(discharger:=omega)only[AllP,cA,cB];omega)|(simp only[AllP,cC,cD,cE,cF,cG];omega)) ?_|refine zn ?_|refine zb ?_|refine ze rfl ?_|refine zr ?_|refine zk ?_|refine zT rfl rfl rfl ?_|refine zU rfl rfl rfl ?_|refine zV rfl rfl rfl ?_|refine zf rfl ?_|refine zt rfl ?_)
      refine r_if (p := d = 2) rfl (fun hd2 => ?_) (fun hd2 => ?_)
      · (repeat first|refine zA ?_|refine zB ?_|refine zC ?_|refine zD ?_|refine zE ?_|refine zg ?_|refine zo rfl rfl (by first|exact trivial|(simp only[AllP];omega)|(simp(discharger:=omega)only[AllP,cA,cB];omega)|(simp only[AllP,cC,cD,cE,cF,cG];omega)) ?_|refine zn ?_|refine zb ?_|refine ze rfl ?_|refine zr ?_|refine zk ?_|refine zT rfl rfl rfl ?_|refine zU rfl rfl rfl ?_|refine zV rfl rfl rfl ?_|refine zf rfl ?_|refine zt rfl ?_)
        refine o_call (Close_ret hR6.rel) rfl rfl rfl ?_
        rintro v w7 ⟨rfl, hto⟩
        have hR7 := hR6.relTo hto
        have hS7 := relS (S1 := hS6) (B1 := hR6) hto.kp
        have kk7 : Kp [] w0 w7 := kk6.since hto.kp hR6.newR
        (repeat first|refine zA ?_|refine zB ?_|refine zC ?_|refine zD ?_|refine zE ?_|refine zg ?_|refine zo rfl rfl (by first|exact trivial|(simp only[AllP];omega)|(simp(discharger:=omega)only[AllP,cA,cB];omega)|(simp only[AllP,cC,cD,cE,cF,cG];omega)) ?_|refine zn ?_|refine zb ?_|refine ze rfl ?_|refine zr ?_|refine zk ?_|refine zT rfl rfl rfl ?_|refine zU rfl rfl rfl ?_|refine zV rfl rfl rfl ?_|refine zf rfl ?_|refine zt rfl ?_)
        refine o_call (num_ret 0) rfl rfl rfl ?_
        rintro v w8 ⟨rfl, rfl⟩
        (repeat first|refine zA ?_|refine zB ?_|refine zC ?_|refine zD ?_|refine zE ?_|refine zg ?_|refine zo rfl rfl (by first|exact trivial|(simp only[AllP];omega)|(simp(discharger:=omega)only[AllP,cA,cB];omega)|(simp only[AllP,cC,cD,cE,cF,cG];omega)) ?_|refine zn ?_|refine zb ?_|refine ze rfl ?_|refine zr ?_|refine zk ?_|refine zT rfl rfl rfl ?_|refine zU rfl rfl rfl ?_|refine zV rfl rfl rfl ?_|refine zf rfl ?_|refine zt rfl ?_)
        refine o_call (rClose_ret hS7.tab hR7.rr hR7.nok hin) rfl rfl rfl ?_
        rintro v w9 ⟨rfl, bq', As', hto2⟩
        have hR9 := hR7.rrTo kk7 hS7.lt hto2 (closeM_ok hM)
        have hS9 := rrS (S1 := hS7) (B1 := hR7) hto2.kp
        have kk9 : Kp [] w0 w9 := kk7.since hto2.kp hR7.newQ
        (repeat first|refine zA ?_|refine zB ?_|refine zC ?_|refine zD ?_|refine zE ?_|refine zg ?_|refine zo rfl rfl (by first|exact trivial|(simp only[AllP];omega)|(simp(discharger:=omega)only[AllP,cA,cB];omega)|(simp only[AllP,cC,cD,cE,cF,cG];omega)) ?_|refine zn ?_|refine zb ?_|refine ze rfl ?_|refine zr ?_|refine zk ?_|refine zT rfl rfl rfl ?_|refine zU rfl rfl rfl ?_|refine zV rfl rfl rfl ?_|refine zf rfl ?_|refine zt rfl ?_)
        exact ⟨_, rfl, next _ _ _ _ _ _ _ _ _ kk9 hR9 (closeM_inb hM hin) hS9, by dsimp only; omega⟩
      (repeat first|refine zA ?_|refine zB ?_|refine zC ?_|refine zD ?_|refine zE ?_|refine zg ?_|refine zo rfl rfl (by first|exact trivial|(simp only[AllP];omega)|(simp(discharger:=omega)only[AllP,cA,cB];omega)|(simp only[AllP,cC,cD,cE,cF,cG];omega)) ?_|refine zn ?_|refine zb ?_|refine ze rfl ?_|refine zr ?_|refine zk ?_|refine zT rfl rfl rfl ?_|refine zU rfl rfl rfl ?_|refine zV rfl rfl rfl ?_|refine zf rfl ?_|refine zt rfl ?_)
      refine r_if (p := d = 3) rfl (fun hd3 => ?_) (fun hd3 => ?_)
      · (repeat first|refine zA ?_|refine zB ?_|refine zC ?_|refine zD ?_|refine zE ?_|refine zg ?_|refine zo rfl rfl (by first|exact trivial|(simp only[AllP];omega)|(simp(discharger:=omega)only[AllP,cA,cB];omega)|(simp only[AllP,cC,cD,cE,cF,cG];omega)) ?_|refine zn ?_|refine zb ?_|refine ze rfl ?_|refine zr ?_|refine zk ?_|refine zT rfl rfl rfl ?_|refine zU rfl rfl rfl ?_|refine zV rfl rfl rfl ?_|refine zf rfl ?_|refine zt rfl ?_)
        have hpl := pairsL_len n g.M (fun i hi => hR6.rel.rowlen i hi)
        have hns := hR6.rel.small
        refine o_call (Pairs_ret hS6.tab hR6.rel) rfl rfl rfl ?_
        rintro v w7 ⟨Fp, hseq, k7, hnew7⟩
        refine o_call (pairs_ret hseq (by omega) (most := -1) (by decide)) rfl rfl rfl ?_
        rintro v w8 ⟨ad8, cap8, rfl, hn8⟩
        have e1 : pairsN (pairsL n g.M) (-1) = pairsL n g.M := rfl
        rw [e1] at hn8 ⊢
        have k8 := k7.trans hn8.kp
        have hR8 := hR6.kp0 k8
        have hS8 := hS6.kp0 k8
        have kk8 := kk6.trans k8
        (repeat first|refine zA ?_|refine zB ?_|refine zC ?_|refine zD ?_|refine zE ?_|refine zg ?_|refine zo rfl rfl (by first|exact trivial|(simp only[AllP];omega)|(simp(discharger:=omega)only[AllP,cA,cB];omega)|(simp only[AllP,cC,cD,cE,cF,cG];omega)) ?_|refine zn ?_|refine zb ?_|refine ze rfl ?_|refine zr ?_|refine zk ?_|refine zT rfl rfl rfl ?_|refine zU rfl rfl rfl ?_|refine zV rfl rfl rfl ?_|refine zf rfl ?_|refine zt rfl ?_)
        refine o_call (Turned_ret hS8.tab hR8.rel hin) rfl rfl rfl ?_
        rintro v w9 ⟨p', bs', ad', cap', rfl, hnr⟩
        obtain ⟨hokT, _, hinT⟩ := turned_ok hM hin
        have hR9 := hR8.kp0 hnr.kp
        have hS9 := hS8.kp0 hnr.kp
        (repeat first|refine zA ?_|refine zB ?_|refine zC ?_|refine zD ?_|refine zE ?_|refine zg ?_|refine zo rfl rfl (by first|exact trivial|(simp only[AllP];omega)|(simp(discharger:=omega)only[AllP,cA,cB];omega)|(simp only[AllP,cC,cD,cE,cF,cG];omega)) ?_|refine zn ?_|refine zb ?_|refine ze rfl ?_|refine zr ?_|refine zk ?_|refine zT rfl rfl rfl ?_|refine zU rfl rfl rfl ?_|refine zV rfl rfl rfl ?_|refine zf rfl ?_|refine zt rfl ?_)
        refine o_call (Pairs_ret hS9.tab hR9.rel) rfl rfl rfl ?_
        rintro v w10 ⟨Fp2, hseq2, k10, hnew10⟩
        refine o_call (pairs_ret hseq2 (by omega) (most := -1) (by decide)) rfl rfl rfl ?_
        rintro v w11 ⟨ad11, cap11, rfl, hn11⟩
        rw [e1] at hn11 ⊢
        have k911 := k10.trans hn11.kp
        have hfl := flatP_len (pairsL n g.M)
        have q1 := hn11.read
        have q2 := hn8.read.kp (hnr.kp.trans k911) (by simp)
        rw [map_encI] at q1 q2
        (repeat first|refine zA ?_|refine zB ?_|refine zC ?_|refine zD ?_|refine zE ?_|refine zg ?_|refine zo rfl rfl (by first|exact trivial|(simp only[AllP];omega)|(simp(discharger:=omega)only[AllP,cA,cB];omega)|(simp only[AllP,cC,cD,cE,cF,cG];omega)) ?_|refine zn ?_|refine zb ?_|refine ze rfl ?_|refine zr ?_|refine zk ?_|refine zT rfl rfl rfl ?_|refine zU rfl rfl rfl ?_|refine zV rfl rfl rfl ?_|refine zf rfl ?_|refine zt rfl ?_)
        refine o_call (same_yes q1 q2 (by simp) (by simp) (by omega)) rfl rfl rfl ?_
        rintro v w12 ⟨rfl, hs12⟩
        have k912 := k911.trans (hs12.kp [])
        have hR12 := hR9.kp0 k912
        have hS12 := hS9.kp0 k912
        (repeat first|refine zA ?_|refine zB ?_|refine zC ?_|refine zD ?_|refine zE ?_|refine zg ?_|refine zo rfl rfl (by first|exact trivial|(simp only[AllP];omega)|(simp(discharger:=omega)only[AllP,cA,cB];omega)|(simp only[AllP,cC,cD,cE,cF,cG];omega)) ?_|refine zn ?_|refine zb ?_|refine ze rfl ?_|refine zr ?_|refine zk ?_|refine zT rfl rfl rfl ?_|refine zU rfl rfl rfl ?_|refine zV rfl rfl rfl ?_|refine zf rfl ?_|refine zt rfl ?_)
        have hlink : Ret Tryd.prog 29 [ptr g.p, I 0, I 0] w12 (fun v w' => (∃ z, v = I z) ∧ Kp (relBlks g.p g.ad g.bs) w12 w') := by
          by_cases h0 : 0 < n
          · exact (Link_ret (i := 0) (j := 0) hR12.rel h0 h0).mono fun v w' ⟨h1, h2⟩ => ⟨⟨0, h1⟩, h2.kp⟩
          · exact (Link_bad hR12.rel (i := 0) (j := 0) (by unfold nodeB; simp; omega)).mono fun v w' ⟨h1, h2⟩ => ⟨⟨2, h1⟩, by rw [h2]; exact Kp.refl _ _⟩
        refine o_call hlink rfl rfl rfl ?_
        rintro v w13 ⟨⟨z, rfl⟩, k13⟩
        have k9_13 : Kp (relBlks g.p g.ad g.bs) w9 w13 := (k912.mono (by simp)).trans k13
        have hR13 := hR8.swap kk8 hS8.lt hnr k9_13
        have hS13 := relS (S1 := hS12) (B1 := hR12) k13
        have kk12 : Kp [] w0 w12 := (kk8.trans hnr.kp).trans k912
        have kk13 : Kp [] w0 w13 := kk12.since k13 hR8.newR
        (repeat first|refine zA ?_|refine zB ?_|refine zC ?_|refine zD ?_|refine zE ?_|refine zg ?_|refine zo rfl rfl (by first|exact trivial|(simp only[AllP];omega)|(simp(discharger:=omega)only[AllP,cA,cB];omega)|(simp only[AllP,cC,cD,cE,cF,cG];omega)) ?_|refine zn ?_|refine zb ?_|refine ze rfl ?_|refine zr ?_|refine zk ?_|refine zT rfl rfl rfl ?_|refine zU rfl rfl rfl ?_|refine zV rfl rfl rfl ?_|refine zf rfl ?_|refine zt rfl ?_)
        refine o_call (rTurned_ret hS13.tab hR13.rr hR13.nok hin) rfl rfl rfl ?_
        rintro v w14 ⟨q', bq', Aq', rfl, hnq⟩
        have hR14 := hR13.rrSwap kk13 hS13.lt hnq hokT
        (repeat first|refine zA ?_|refine zB ?_|refine zC ?_|refine zD ?_|refine zE ?_|refine zg ?_|refine zo rfl rfl (by first|exact trivial|(simp only[AllP];omega)|(simp(discharger:=omega)only[AllP,cA,cB];omega)|(simp only[AllP,cC,cD,cE,cF,cG];omega)) ?_|refine zn ?_|refine zb ?_|refine ze rfl ?_|refine zr ?_|refine zk ?_|refine zT rfl rfl rfl ?_|refine zU rfl rfl rfl ?_|refine zV rfl rfl rfl ?_|refine zf rfl ?_|refine zt rfl ?_)
        exact ⟨_, rfl, next _ _ _ _ _ _ _ _ _ (kk13.trans hnq.kp) hR14 hinT (hS13.kp0 hnq.kp), by dsimp only; omega⟩
      (repeat first|refine zA ?_|refine zB ?_|refine zC ?_|refine zD ?_|refine zE ?_|refine zg ?_|refine zo rfl rfl (by first|exact trivial|(simp only[AllP];omega)|(simp(discharger:=omega)only[AllP,cA,cB];omega)|(simp only[AllP,cC,cD,cE,cF,cG];omega)) ?_|refine zn ?_|refine zb ?_|refine ze rfl ?_|refine zr ?_|refine zk ?_|refine zT rfl rfl rfl ?_|refine zU rfl rfl rfl ?_|refine zV rfl rfl rfl ?_|refine zf rfl ?_|refine zt rfl ?_)
      refine r_if (p := d = 4) rfl (fun hd4 => ?_) (fun hd4 => ?_)
      · (repeat first|refine zA ?_|refine zB ?_|refine zC ?_|refine zD ?_|refine zE ?_|refine zg ?_|refine zo rfl rfl (by first|exact trivial|(simp only[AllP];omega)|(simp(discharger:=omega)only[AllP,cA,cB];omega)|(simp only[AllP,cC,cD,cE,cF,cG];omega)) ?_|refine zn ?_|refine zb ?_|refine ze rfl ?_|refine zr ?_|refine zk ?_|refine zT rfl rfl rfl ?_|refine zU rfl rfl rfl ?_|refine zV rfl rfl rfl ?_|refine zf rfl ?_|refine zt rfl ?_)
        have hpl := pairsL_len n g.M (fun i hi => hR6.rel.rowlen i hi)
        have hns := hR6.rel.small
        have hfew := hI.few
        have hle := hI.le
        have hwl : g.wts.length = g.sqs.length := by have := congrArg List.length hI.same; simpa using this.symm
        refine o_call (Pairs_ret hS6.tab hR6.rel) rfl rfl rfl ?_
        rintro v w7 ⟨Fp, hseq, k7, hnew7⟩
        have hseq0 := hseq
        obtain ⟨f, lb, rfl, hIt⟩ := hseq.is
        (repeat first|refine zA ?_|refine zB ?_|refine zC ?_|refine zD ?_|refine zE ?_|refine zg ?_|refine zo rfl rfl (by first|exact trivial|(simp only[AllP];omega)|(simp(discharger:=omega)only[AllP,cA,cB];omega)|(simp only[AllP,cC,cD,cE,cF,cG];omega)) ?_|refine zn ?_|refine zb ?_|refine ze rfl ?_|refine zr ?_|refine zk ?_|refine zT rfl rfl rfl ?_|refine zU rfl rfl rfl ?_|refine zV rfl rfl rfl ?_|refine zf rfl ?_|refine zt rfl ?_)
        refine o_buildSlice [.func (.func f) #[] ⟨lb⟩] rfl (by simp [Value.oneCell']) rfl (by decide) (by decide) rfl rfl rfl rfl rfl ?_
        intro b8 w8 hb8 hu8
        have k8 : Kp [] w7 w8 := hu8.kp [] (.inr (by omega))
        have k78 := k7.trans k8
        have hS8 := hS6.kp0 k78
        refine o_append1 rfl rfl hS8.sq hu8.blk rfl rfl rfl rfl (by simp only [maxLen]; omega) (by omega) rfl rfl ?_
        intro ad9 cap9 w9 ho9 k9 hnew9
        have hs8 := hseq0.kp k8 (by simp)
        have hS9 := hS6.push1 kk6 k78 (by simp [Value.oneCell']) (by omega) hs8 hnew7 ho9 k9 hnew9
        have kk9 : Kp [] w0 w9 := (kk6.trans k78).since k9 (fun b hb => hS6.new b (.inl hb))
        (repeat first|refine zA ?_|refine zB ?_|refine zC ?_|refine zD ?_|refine zE ?_|refine zg ?_|refine zo rfl rfl (by first|exact trivial|(simp only[AllP];omega)|(simp(discharger:=omega)only[AllP,cA,cB];omega)|(simp only[AllP,cC,cD,cE,cF,cG];omega)) ?_|refine zn ?_|refine zb ?_|refine ze rfl ?_|refine zr ?_|refine zk ?_|refine zT rfl rfl rfl ?_|refine zU rfl rfl rfl ?_|refine zV rfl rfl rfl ?_|refine zf rfl ?_|refine zt rfl ?_)
        have hR8 := hR6.kp0 k78
        have hR9 := hR8.kp k9 (fun b hb hb2 => own_rel hR8.rel hS8.sq (by decide) (by decide) (by decide) b hb2 hb) (fun b hb hb2 => own_rr hR8.rr hS8.sq (by decide) (by decide) (by decide) b hb2 hb)
        refine o_call (rPairs_ret hR9.rr hR9.nok) rfl rfl rfl ?_
        rintro v w10 ⟨a10, c10, rfl, hn10⟩
        (repeat first|refine zA ?_|refine zB ?_|refine zC ?_|refine zD ?_|refine zE ?_|refine zg ?_|refine zo rfl rfl (by first|exact trivial|(simp only[AllP];omega)|(simp(discharger:=omega)only[AllP,cA,cB];omega)|(simp only[AllP,cC,cD,cE,cF,cG];omega)) ?_|refine zn ?_|refine zb ?_|refine ze rfl ?_|refine zr ?_|refine zk ?_|refine zT rfl rfl rfl ?_|refine zU rfl rfl rfl ?_|refine zV rfl rfl rfl ?_|refine zf rfl ?_|refine zt rfl ?_)
        refine o_buildSlice [.slice a10 (flatP (pairsL n g.M)).length c10] rfl (by simp [Value.oneCell']) rfl (by decide) (by decide) rfl rfl rfl rfl rfl ?_
        intro b11 w11 hb11 hu11
        have k11 : Kp [] w10 w11 := hu11.kp [] (.inr (by omega))
        refine o_append1 rfl rfl ((hS9.kp0 (hn10.kp.trans k11)).wt) hu11.blk rfl rfl rfl rfl (by simp only [maxLen]; omega) (by omega) rfl rfl ?_
        intro ad12 cap12 w12 ho12 k12 hnew12
        have hS12 := hS9.push2 kk9 hn10 k11 ho12 k12 hnew12
        have kk11 := (kk9.trans hn10.kp).trans k11
        have kk12 : Kp [] w0 w12 := kk11.since k12 (fun b hb => hS9.new b (.inr hb))
        have hR10 := hR9.kp0 (hn10.kp.trans k11)
        have hR12 := hR10.kp k12 (fun b hb hb2 => by
          obtain ⟨l2, h2⟩ := ((hS9.kp0 (hn10.kp.trans k11)).wt).typed hb2
          obtain ⟨l1, T1, g1, t1⟩ := hR10.rel.typed3 b hb
          refine relRow_ne g1 h2 ?_ rfl
          rcases t1 with rfl | rfl | rfl <;> decide) (fun b hb hb2 => own_rr hR10.rr ((hS9.kp0 (hn10.kp.trans k11)).wt) (by decide) (by decide) (by decide) b hb2 hb)
        have hR13 := hR12.cst (Cst' := blkOf a10 ++ (Fp ++ g.Cst)) (fun b hb => by
          rcases List.mem_append.1 hb with hb | hb
          · refine .inr ⟨fun hb2 => ?_, fun hb2 => ?_⟩
            · have := hn10.new b hb; have := hR9.rel.lt b hb2; omega
            · have := hn10.new b hb; have := hR9.rr.lt b hb2; omega
          · rcases List.mem_append.1 hb with hb | hb
            · refine .inr ⟨fun hb2 => ?_, fun hb2 => ?_⟩
              · have := hnew7 b hb; have := hR6.rel.lt b hb2; omega
              · have := hnew7 b hb; have := hR6.rr.lt b hb2; omega
            · exact .inl hb)
        (repeat first|refine zA ?_|refine zB ?_|refine zC ?_|refine zD ?_|refine zE ?_|refine zg ?_|refine zo rfl rfl (by first|exact trivial|(simp only[AllP];omega)|(simp(discharger:=omega)only[AllP,cA,cB];omega)|(simp only[AllP,cC,cD,cE,cF,cG];omega)) ?_|refine zn ?_|refine zb ?_|refine ze rfl ?_|refine zr ?_|refine zk ?_|refine zT rfl rfl rfl ?_|refine zU rfl rfl rfl ?_|refine zV rfl rfl rfl ?_|refine zf rfl ?_|refine zt rfl ?_)
        refine ⟨{ g with i := g.i + 1, sqs := g.sqs ++ [(.func (.func f) #[] ⟨lb⟩, pairsL n g.M)], adS := ad9, capS := cap9, wts := g.wts ++ [(a10, c10, pairsL n g.M)], adW := ad12, capW := cap12, Cst := blkOf a10 ++ (Fp ++ g.Cst) }, ?_, ⟨kk12, hR13, hin, hS12, ?_, ?_, ?_⟩, ?_⟩
        · dsimp only; rw [List.length_append, List.length_append]; rfl
        · dsimp only; rw [List.map_append, List.map_append, hI.same]; rfl
        · dsimp only; rw [List.length_append]; simp; omega
        · dsimp only; omega
        · dsimp only; omega
      (repeat first|refine zA ?_|refine zB ?_|refine zC ?_|refine zD ?_|refine zE ?_|refine zg ?_|refine zo rfl rfl (by first|exact trivial|(simp only[AllP];omega)|(simp(discharger:=omega)only[AllP,cA,cB];omega)|(simp only[AllP,cC,cD,cE,cF,cG];omega)) ?_|refine zn ?_|refine zb ?_|refine ze rfl ?_|refine zr ?_|refine zk ?_|refine zT rfl rfl rfl ?_|refine zU rfl rfl rfl ?_|refine zV rfl rfl rfl ?_|refine zf rfl ?_|refine zt rfl ?_)
      exact ⟨_, rfl, next _ _ _ _ _ _ _ _ _ kk6 hR6 hin hS6, by dsimp only; omega⟩
    · have hwl : g.wts.length = g.sqs.length := by have := congrArg List.length hI.same; simpa using this.symm
      (repeat first|refine zA ?_|refine zB ?_|refine zC ?_|refine zD ?_|refine zE ?_|refine zg ?_|refine zo rfl rfl (by first|exact trivial|(simp only[AllP];omega)|(simp(discharger:=omega)only[AllP,cA,cB];omega)|(simp only[AllP,cC,cD,cE,cF,cG];omega)) ?_|refine zn ?_|refine zb ?_|refine ze rfl ?_|refine zr ?_|refine zk ?_|refine zT rfl rfl rfl ?_|refine zU rfl rfl rfl ?_|refine zV rfl rfl rfl ?_|refine zf rfl ?_|refine zt rfl ?_)
      refine r_loop (α := Nat) [5, 7, 9, 10, 19] (fun j => [ptr g.p, ptr g.q, .slice g.adS g.sqs.length g.capS, .slice g.adW g.wts.length g.capW, I j]) (fun j wd => Kp [] wc wd ∧ j ≤ g.sqs.length) (fun j => g.sqs.length - j) 0 rfl ⟨Kp.refl _ _, by omega⟩ ?_
      rintro j e wd ⟨kd, hj⟩
      have hfew := hI.few
      have hle := hI.le
      have hSd := hI.seqs.kp0 kd
      (repeat first|refine zA ?_|refine zB ?_|refine zC ?_|refine zD ?_|refine zE ?_|refine zg ?_|refine zo rfl rfl (by first|exact trivial|(simp only[AllP];omega)|(simp(discharger:=omega)only[AllP,cA,cB];omega)|(simp only[AllP,cC,cD,cE,cF,cG];omega)) ?_|refine zn ?_|refine zb ?_|refine ze rfl ?_|refine zr ?_|refine zk ?_|refine zT rfl rfl rfl ?_|refine zU rfl rfl rfl ?_|refine zV rfl rfl rfl ?_|refine zf rfl ?_|refine zt rfl ?_)
      refine r_if rfl (fun hc2 => ?_) (fun hc2 => ?_)
      · have hjl : j < g.sqs.length := by omega
        obtain ⟨s, hs⟩ : ∃ s, g.sqs[j]? = some s := ⟨_, List.getElem?_eq_getElem hjl⟩
        obtain ⟨t, ht⟩ : ∃ t, g.wts[j]? = some t := ⟨_, List.getElem?_eq_getElem (by omega)⟩
        have hst : s.2 = t.2.2 := by
          have := congrArg (fun l => l[j]?) hI.same
          simp only [List.getElem?_map, hs, ht] at this
          simpa using this
        obtain ⟨_, hxl, Fp, hsp, hFp⟩ := hSd.sqi s (List.mem_of_getElem? hs)
        obtain ⟨hto, _⟩ := hSd.wti t (List.mem_of_getElem? ht)
        obtain ⟨v, xs⟩ := s
        obtain ⟨ta, tc, ts⟩ := t
        dsimp only at hst hsp hto hxl
        subst hst
        obtain ⟨bS, oS, hSe, _, hcS⟩ := hSd.sq.read.at_ (by simp; omega)
        obtain ⟨bW, oW, hWe, _, hcW⟩ := hSd.wt.read.at_ (by simp; omega)
        have hfl := flatP_len xs
        have hcap := hto.le_cap
        rw [hSe, hWe]
        (repeat first|refine zA ?_|refine zB ?_|refine zC ?_|refine zD ?_|refine zE ?_|refine zg ?_|refine zo rfl rfl (by first|exact trivial|(simp only[AllP];omega)|(simp(discharger:=omega)only[AllP,cA,cB];omega)|(simp only[AllP,cC,cD,cE,cF,cG];omega)) ?_|refine zn ?_|refine zb ?_|refine ze rfl ?_|refine zr ?_|refine zk ?_|refine zT rfl rfl rfl ?_|refine zU rfl rfl rfl ?_|refine zV rfl rfl rfl ?_|refine zf rfl ?_|refine zt rfl ?_)
        refine r_seq ?_
        refine r_mix (fun w' => Kp [] wd w') [(0, false), (1, false), (2, false), (3, false), (5, false), (6, false), (7, false), (8, false), (4, true), (9, true), (10, false), (11, false), (12, false), (13, false), (14, false), (15, false), (17, false), (18, false), (19, false), (20, false), (21, false), (22, false), (23, false), (24, false), (25, false), (26, false), (27, false), (16, true), (28, true), (29, false), (30, false)] follows_mixed (by kernel_rfl) (by kernel_rfl) (by kernel_rfl) ((Sm.drew wd).kp []) ?_
        have hk0 := (Sm.drew wd).kp []
        generalize ({ wd with drawn := wd.drawn + 1 } : World) = we at hk0 ⊢
        have fS : ∀ w', Kp [] wd w' → w'.cell? ⟨bS, oS + j, none⟩ = some v := fun w' hk => by
          rw [← hcS j v (by rw [List.getElem?_map, hs]; rfl)]
          exact World.cell?_of_block (hk.at_ bS (by have := hSd.sq.lt bS (by rw [hSe]; simp [blkOf]); exact this) (by simp))
        have fW : ∀ w', Kp [] wd w' → w'.cell? ⟨bW, oW + j, none⟩ = some (.slice ta (flatP xs).length tc) := fun w' hk => by
          rw [← hcW j _ (by rw [List.getElem?_map, ht]; rfl)]
          exact World.cell?_of_block (hk.at_ bW (by have := hSd.wt.lt bW (by rw [hWe]; simp [blkOf]); exact this) (by simp))
        (repeat first|refine xo rfl rfl (by first|exact trivial|(simp only[AllP];omega)|(simp(discharger:=omega)only[AllP,cA,cB];omega)|(simp only[AllP,cC,cD,cE,cF,cG];omega)) ?_|refine xn ?_|refine x_know rfl _ _ (some true) rfl rfl rfl ?_|refine x_know rfl _ _ (some false) rfl rfl rfl ?_|refine x_know rfl _ _ none rfl rfl rfl ?_)
        refine x_load (v := v) rfl rfl fS rfl rfl rfl rfl ?_
        (repeat first|refine xo rfl rfl (by first|exact trivial|(simp only[AllP];omega)|(simp(discharger:=omega)only[AllP,cA,cB];omega)|(simp only[AllP,cC,cD,cE,cF,cG];omega)) ?_|refine xn ?_|refine x_know rfl _ _ (some true) rfl rfl rfl ?_|refine x_know rfl _ _ (some false) rfl rfl rfl ?_|refine x_know rfl _ _ none rfl rfl rfl ?_)
        refine x_load (v := .slice ta (flatP xs).length tc) rfl rfl fW rfl rfl rfl rfl ?_
        (repeat first|refine xo rfl rfl (by first|exact trivial|(simp only[AllP];omega)|(simp(discharger:=omega)only[AllP,cA,cB];omega)|(simp only[AllP,cC,cD,cE,cF,cG];omega)) ?_|refine xn ?_|refine x_know rfl _ _ (some true) rfl rfl rfl ?_|refine x_know rfl _ _ (some false) rfl rfl rfl ?_|refine x_know rfl _ _ none rfl rfl rfl ?_)
        refine x_act rfl ?_
        have hse := hsp.kp hk0 (by simp)
        refine o_call (pairs_ret hse hxl (most := -1) (by decide)) rfl rfl rfl ?_
        rintro v1 w9 ⟨ad9, cap9, rfl, hn9⟩
        have e1 : pairsN xs (-1) = xs := rfl
        rw [e1] at hn9 ⊢
        have k9 := hk0.trans hn9.kp
        refine o_nil ⟨.inr k9, ?_⟩
        (repeat first|refine xo rfl rfl (by first|exact trivial|(simp only[AllP];omega)|(simp(discharger:=omega)only[AllP,cA,cB];omega)|(simp only[AllP,cC,cD,cE,cF,cG];omega)) ?_|refine xn ?_|refine x_know rfl _ _ (some true) rfl rfl rfl ?_|refine x_know rfl _ _ (some false) rfl rfl rfl ?_|refine x_know rfl _ _ none rfl rfl rfl ?_)
        refine x_act rfl ?_
        have q1 := hn9.read
        have q2 := hto.read.kp k9 (by simp)
        rw [map_encI] at q1 q2
        refine o_call (same_yes q1 q2 (by simp) (by simp) (by omega)) rfl rfl rfl ?_
        rintro v2 w10 ⟨rfl, hs10⟩
        have k10 := k9.trans (hs10.kp [])
        refine o_nil ⟨.inr k10, ?_⟩
        (repeat first|refine xo rfl rfl (by first|exact trivial|(simp only[AllP];omega)|(simp(discharger:=omega)only[AllP,cA,cB];omega)|(simp only[AllP,cC,cD,cE,cF,cG];omega)) ?_|refine xn ?_|refine x_know rfl _ _ (some true) rfl rfl rfl ?_|refine x_know rfl _ _ (some false) rfl rfl rfl ?_|refine x_know rfl _ _ none rfl rfl rfl ?_)
        refine x_load (v := v) rfl rfl fS rfl rfl rfl rfl ?_
        (repeat first|refine xo rfl rfl (by first|exact trivial|(simp only[AllP];omega)|(simp(discharger:=omega)only[AllP,cA,cB];omega)|(simp only[AllP,cC,cD,cE,cF,cG];omega)) ?_|refine xn ?_|refine x_know rfl _ _ (some true) rfl rfl rfl ?_|refine x_know rfl _ _ (some false) rfl rfl rfl ?_|refine x_know rfl _ _ none rfl rfl rfl ?_)
        refine x_load (v := .slice ta (flatP xs).length tc) rfl rfl fW rfl rfl rfl rfl ?_
        (repeat first|refine xo rfl rfl (by first|exact trivial|(simp only[AllP];omega)|(simp(discharger:=omega)only[AllP,cA,cB];omega)|(simp only[AllP,cC,cD,cE,cF,cG];omega)) ?_|refine xn ?_|refine x_know rfl _ _ (some true) rfl rfl rfl ?_|refine x_know rfl _ _ (some false) rfl rfl rfl ?_|refine x_know rfl _ _ none rfl rfl rfl ?_)
        refine x_load (v := .slice ta (flatP xs).length tc) rfl rfl fW rfl rfl rfl rfl ?_
        (repeat first|refine xo rfl rfl (by first|exact trivial|(simp only[AllP];omega)|(simp(discharger:=omega)only[AllP,cA,cB];omega)|(simp only[AllP,cC,cD,cE,cF,cG];omega)) ?_|refine xn ?_|refine x_know rfl _ _ (some true) rfl rfl rfl ?_|refine x_know rfl _ _ (some false) rfl rfl rfl ?_|refine x_know rfl _ _ none rfl rfl rfl ?_)
        refine x_act rfl ?_
        have hse2 := hsp.kp k10 (by simp)
        refine o_call (pairs_ret hse2 hxl (most := 1) (by decide)) rfl rfl rfl ?_
        rintro v3 w11 ⟨ad11, cap11, rfl, hn11⟩
        have k11 := k10.trans hn11.kp
        refine o_nil ⟨.inr k11, ?_⟩
        refine x_act rfl ?_
        have q3 := hn11.read
        have q4 := (hto.read.kp k11 (by simp)).take (min 2 (flatP xs).length)
        have e2 := pairsN_one xs
        rw [e2] at q3 ⊢
        rw [← List.map_take] at q4
        rw [map_encI] at q3 q4
        have e3 : (min (2 : Int) ((flatP xs).length : Int)).toNat = min 2 (flatP xs).length := by omega
        refine o_call (same_yes (n2 := (min (2 : Int) ((flatP xs).length : Int)).toNat) (c2 := tc) q3 q4 (by simp) (by rw [e3]; simp) (by simp; omega)) rfl rfl rfl ?_
        rintro v4 w12 ⟨rfl, hs12⟩
        have k12 := k11.trans (hs12.kp [])
        refine o_nil ⟨.inr k12, ?_⟩
        (repeat first|refine xo rfl rfl (by first|exact trivial|(simp only[AllP];omega)|(simp(discharger:=omega)only[AllP,cA,cB];omega)|(simp only[AllP,cC,cD,cE,cF,cG];omega)) ?_|refine xn ?_|refine x_know rfl _ _ (some true) rfl rfl rfl ?_|refine x_know rfl _ _ (some false) rfl rfl rfl ?_|refine x_know rfl _ _ none rfl rfl rfl ?_)
        (repeat first|refine zA ?_|refine zB ?_|refine zC ?_|refine zD ?_|refine zE ?_|refine zg ?_|refine zo rfl rfl (by first|exact trivial|(simp only[AllP];omega)|(simp(discharger:=omega)only[AllP,cA,cB];omega)|(simp only[AllP,cC,cD,cE,cF,cG];omega)) ?_|refine zn ?_|refine zb ?_|refine ze rfl ?_|refine zr ?_|refine zk ?_|refine zT rfl rfl rfl ?_|refine zU rfl rfl rfl ?_|refine zV rfl rfl rfl ?_|refine zf rfl ?_|refine zt rfl ?_)
        exact ⟨j + 1, rfl, ⟨kd.trans k12, by omega⟩, by omega⟩
      · have hRd := hI.rel.kp0 kd
        have hpl := pairsL_len n g.M (fun i hi => hRd.rel.rowlen i hi)
        have hns := hRd.rel.small
        (repeat first|refine zA ?_|refine zB ?_|refine zC ?_|refine zD ?_|refine zE ?_|refine zg ?_|refine zo rfl rfl (by first|exact trivial|(simp only[AllP];omega)|(simp(discharger:=omega)only[AllP,cA,cB];omega)|(simp only[AllP,cC,cD,cE,cF,cG];omega)) ?_|refine zn ?_|refine zb ?_|refine ze rfl ?_|refine zr ?_|refine zk ?_|refine zT rfl rfl rfl ?_|refine zU rfl rfl rfl ?_|refine zV rfl rfl rfl ?_|refine zf rfl ?_|refine zt rfl ?_)
        refine o_call (Pairs_ret hSd.tab hRd.rel) rfl rfl rfl ?_
        rintro v w8 ⟨Fp, hseq, k8, hnew8⟩
        refine o_call (pairs_ret hseq (by omega) (most := -1) (by decide)) rfl rfl rfl ?_
        rintro v w9 ⟨ad9, cap9, rfl, hn9⟩
        have e1 : pairsN (pairsL n g.M) (-1) = pairsL n g.M := rfl
        rw [e1] at hn9 ⊢
        have k9 := k8.trans hn9.kp
        have hfl := flatP_len (pairsL n g.M)
        have hlx : (pairsL n g.M).length ≤ 4194304 := by omega
        (repeat first|refine zA ?_|refine zB ?_|refine zC ?_|refine zD ?_|refine zE ?_|refine zg ?_|refine zo rfl rfl (by first|exact trivial|(simp only[AllP];omega)|(simp(discharger:=omega)only[AllP,cA,cB];omega)|(simp only[AllP,cC,cD,cE,cF,cG];omega)) ?_|refine zn ?_|refine zb ?_|refine ze rfl ?_|refine zr ?_|refine zk ?_|refine zT rfl rfl rfl ?_|refine zU rfl rfl rfl ?_|refine zV rfl rfl rfl ?_|refine zf rfl ?_|refine zt rfl ?_)
        refine o_call (rPairs_ret (hRd.kp0 k9).rr hRd.nok) rfl rfl rfl ?_
        rintro v w10 ⟨a10, c10, rfl, hn10⟩
        have k10 := hn10.kp
        have q2 := hn10.read
        have q1 := hn9.read.kp k10 (by simp)
        rw [map_encI] at q1 q2
        refine o_call (same_yes q1 q2 (by simp) (by simp) (by omega)) rfl rfl rfl ?_
        rintro v w11 ⟨rfl, hs11⟩
        have k11 := (k9.trans k10).trans (hs11.kp [])
        (repeat first|refine zA ?_|refine zB ?_|refine zC ?_|refine zD ?_|refine zE ?_|refine zg ?_|refine zo rfl rfl (by first|exact trivial|(simp only[AllP];omega)|(simp(discharger:=omega)only[AllP,cA,cB];omega)|(simp only[AllP,cC,cD,cE,cF,cG];omega)) ?_|refine zn ?_|refine zb ?_|refine ze rfl ?_|refine zr ?_|refine zk ?_|refine zT rfl rfl rfl ?_|refine zU rfl rfl rfl ?_|refine zV rfl rfl rfl ?_|refine zf rfl ?_|refine zt rfl ?_)
        refine o_call (Size_ret (hRd.kp0 k11).rel) rfl rfl rfl ?_
        rintro v w12 ⟨rfl, rfl⟩
        (repeat first|refine zA ?_|refine zB ?_|refine zC ?_|refine zD ?_|refine zE ?_|refine zg ?_|refine zo rfl rfl (by first|exact trivial|(simp only[AllP];omega)|(simp(discharger:=omega)only[AllP,cA,cB];omega)|(simp only[AllP,cC,cD,cE,cF,cG];omega)) ?_|refine zn ?_|refine zb ?_|refine ze rfl ?_|refine zr ?_|refine zk ?_|refine zT rfl rfl rfl ?_|refine zU rfl rfl rfl ?_|refine zV rfl rfl rfl ?_|refine zf rfl ?_|refine zt rfl ?_)
        refine o_call (rSize_ret (hRd.kp0 k11).rr) rfl rfl rfl ?_
        rintro v w13 ⟨rfl, rfl⟩
        (repeat first|refine zA ?_|refine zB ?_|refine zC ?_|refine zD ?_|refine zE ?_|refine zg ?_|refine zo rfl rfl (by first|exact trivial|(simp only[AllP];omega)|(simp(discharger:=omega)only[AllP,cA,cB];omega)|(simp only[AllP,cC,cD,cE,cF,cG];omega)) ?_|refine zn ?_|refine zb ?_|refine ze rfl ?_|refine zr ?_|refine zk ?_|refine zT rfl rfl rfl ?_|refine zU rfl rfl rfl ?_|refine zV rfl rfl rfl ?_|refine zf rfl ?_|refine zt rfl ?_)
        refine o_is true 13 true rfl rfl rfl (by simp) ?_
        (repeat first|refine zA ?_|refine zB ?_|refine zC ?_|refine zD ?_|refine zE ?_|refine zg ?_|refine zo rfl rfl (by first|exact trivial|(simp only[AllP];omega)|(simp(discharger:=omega)only[AllP,cA,cB];omega)|(simp only[AllP,cC,cD,cE,cF,cG];omega)) ?_|refine zn ?_|refine zb ?_|refine ze rfl ?_|refine zr ?_|refine zk ?_|refine zT rfl rfl rfl ?_|refine zU rfl rfl rfl ?_|refine zV rfl rfl rfl ?_|refine zf rfl ?_|refine zt rfl ?_)
        refine o_call (lives_ret (hSd.tab.kp k11 (by simp))) rfl rfl rfl ?_
        rintro v w14 ⟨rfl, k14⟩
        (repeat first|refine zA ?_|refine zB ?_|refine zC ?_|refine zD ?_|refine zE ?_|refine zg ?_|refine zo rfl rfl (by first|exact trivial|(simp only[AllP];omega)|(simp(discharger:=omega)only[AllP,cA,cB];omega)|(simp only[AllP,cC,cD,cE,cF,cG];omega)) ?_|refine zn ?_|refine zb ?_|refine ze rfl ?_|refine zr ?_|refine zk ?_|refine zT rfl rfl rfl ?_|refine zU rfl rfl rfl ?_|refine zV rfl rfl rfl ?_|refine zf rfl ?_|refine zt rfl ?_)
        exact ⟨_, rfl, rfl, ((hI.kp.trans kd).trans k11).trans k14⟩
  · refine o_call (NewRelation_bad (x := size) (by omega)) rfl rfl rfl ?_
    rintro v w2 ⟨rfl, rfl⟩
    (repeat first|refine zA ?_|refine zB ?_|refine zC ?_|refine zD ?_|refine zE ?_|refine zg ?_|refine zo rfl rfl (by first|exact trivial|(simp only[AllP];omega)|(simp(discharger:=omega)only[AllP,cA,cB];omega)|(simp only[AllP,cC,cD,cE,cF,cG];omega)) ?_|refine zn ?_|refine zb ?_|refine ze rfl ?_|refine zr ?_|refine zk ?_|refine zT rfl rfl rfl ?_|refine zU rfl rfl rfl ?_|refine zV rfl rfl rfl ?_|refine zf rfl ?_|refine zt rfl ?_)
    refine o_call (rNew_bad (x := size) (by omega)) rfl rfl rfl ?_
    rintro v w3 ⟨rfl, rfl⟩
    (repeat first|refine zA ?_|refine zB ?_|refine zC ?_|refine zD ?_|refine zE ?_|refine zg ?_|refine zo rfl rfl (by first|exact trivial|(simp only[AllP];omega)|(simp(discharger:=omega)only[AllP,cA,cB];omega)|(simp only[AllP,cC,cD,cE,cF,cG];omega)) ?_|refine zn ?_|refine zb ?_|refine ze rfl ?_|refine zr ?_|refine zk ?_|refine zT rfl rfl rfl ?_|refine zU rfl rfl rfl ?_|refine zV rfl rfl rfl ?_|refine zf rfl ?_|refine zt rfl ?_)
    refine o_call (num_ret 2) rfl rfl rfl ?_
    rintro v w4 ⟨rfl, rfl⟩
    (repeat first|refine zA ?_|refine zB ?_|refine zC ?_|refine zD ?_|refine zE ?_|refine zg ?_|refine zo rfl rfl (by first|exact trivial|(simp only[AllP];omega)|(simp(discharger:=omega)only[AllP,cA,cB];omega)|(simp only[AllP,cC,cD,cE,cF,cG];omega)) ?_|refine zn ?_|refine zb ?_|refine ze rfl ?_|refine zr ?_|refine zk ?_|refine zT rfl rfl rfl ?_|refine zU rfl rfl rfl ?_|refine zV rfl rfl rfl ?_|refine zf rfl ?_|refine zt rfl ?_)
    refine o_call Size_nil rfl rfl rfl ?_
    rintro v w5 ⟨rfl, rfl⟩
    (repeat first|refine zA ?_|refine zB ?_|refine zC ?_|refine zD ?_|refine zE ?_|refine zg ?_|refine zo rfl rfl (by first|exact trivial|(simp only[AllP];omega)|(simp(discharger:=omega)only[AllP,cA,cB];omega)|(simp only[AllP,cC,cD,cE,cF,cG];omega)) ?_|refine zn ?_|refine zb ?_|refine ze rfl ?_|refine zr ?_|refine zk ?_|refine zT rfl rfl rfl ?_|refine zU rfl rfl rfl ?_|refine zV rfl rfl rfl ?_|refine zf rfl ?_|refine zt rfl ?_)
    refine o_call rSize_nil rfl rfl rfl ?_
    rintro v w4 ⟨rfl, rfl⟩
    (repeat first|refine zA ?_|refine zB ?_|refine zC ?_|refine zD ?_|refine zE ?_|refine zg ?_|refine zo rfl rfl (by first|exact trivial|(simp only[AllP];omega)|(simp(discharger:=omega)only[AllP,cA,cB];omega)|(simp only[AllP,cC,cD,cE,cF,cG];omega)) ?_|refine zn ?_|refine zb ?_|refine ze rfl ?_|refine zr ?_|refine zk ?_|refine zT rfl rfl rfl ?_|refine zU rfl rfl rfl ?_|refine zV rfl rfl rfl ?_|refine zf rfl ?_|refine zt rfl ?_)
    obtain ⟨w0, hw0⟩ : ∃ w0, w0 = w4 := ⟨_, rfl⟩
    rw [← hw0]
    have h : ReadS w0 ad (edgeV es) := by rw [hw0]; exact h
    have hI0 : BInv0 w0 es.length ⟨0, [], 0, [], none, 0, 0, 0, fun _ => (none, 0), [], none, 0, [], none, 0, [0]⟩ w0 := by
      rw [hw0]
      exact ⟨Kp.refl _ _, seqs_start hT, rfl, (by simp), (by simp)⟩
    clear hT hw0
    refine r_loop (α := BG) [1, 5, 7, 9, 10, 11] (fun g => [.slice ad es.length c, .pointer none, .pointer none, .slice g.adS g.sqs.length g.capS, .slice g.adW g.wts.length g.capW, I g.i]) (fun g wc => BInv0 w0 es.length g wc) (fun g => es.length - g.i) _ rfl hI0 ?_
    clear hI0
    rintro g e wc hI
    have hle := hI.le
    (repeat first|refine zA ?_|refine zB ?_|refine zC ?_|refine zD ?_|refine zE ?_|refine zg ?_|refine zo rfl rfl (by first|exact trivial|(simp only[AllP];omega)|(simp(discharger:=omega)only[AllP,cA,cB];omega)|(simp only[AllP,cC,cD,cE,cF,cG];omega)) ?_|refine zn ?_|refine zb ?_|refine ze rfl ?_|refine zr ?_|refine zk ?_|refine zT rfl rfl rfl ?_|refine zU rfl rfl rfl ?_|refine zV rfl rfl rfl ?_|refine zf rfl ?_|refine zt rfl ?_)
    refine r_if rfl (fun hc => ?_) (fun hc => ?_)
    · have hlt : g.i < es.length := by omega
      obtain ⟨x0, hx0⟩ : ∃ x, es[g.i]? = some x := ⟨_, List.getElem?_eq_getElem hlt⟩
      obtain ⟨d, x, y⟩ := x0
      obtain ⟨hrd, hrx, hry⟩ := hrng _ (List.mem_of_getElem? hx0)
      dsimp only at hrd hrx hry
      obtain ⟨b, off, rfl, hb, hcell⟩ := h.at_ (by rw [edgeV_len]; omega)
      (repeat first|refine zA ?_|refine zB ?_|refine zC ?_|refine zD ?_|refine zE ?_|refine zg ?_|refine zo rfl rfl (by first|exact trivial|(simp only[AllP];omega)|(simp(discharger:=omega)only[AllP,cA,cB];omega)|(simp only[AllP,cC,cD,cE,cF,cG];omega)) ?_|refine zn ?_|refine zb ?_|refine ze rfl ?_|refine zr ?_|refine zk ?_|refine zT rfl rfl rfl ?_|refine zU rfl rfl rfl ?_|refine zV rfl rfl rfl ?_|refine zf rfl ?_|refine zt rfl ?_)
      refine o_loadA (vs := [I d, I x, I y]) rfl (fun j v hv => ?_) rfl rfl rfl rfl rfl rfl ?_
      · have h1 := hcell _ _ (edgeV_get hx0 j v hv)
        rw [Nat.add_assoc, ← h1]
        exact World.cell?_of_block (hI.kp.at_ b hb (by simp))
      (repeat first|refine zA ?_|refine zB ?_|refine zC ?_|refine zD ?_|refine zE ?_|refine zg ?_|refine zo rfl rfl (by first|exact trivial|(simp only[AllP];omega)|(simp(discharger:=omega)only[AllP,cA,cB];omega)|(simp only[AllP,cC,cD,cE,cF,cG];omega)) ?_|refine zn ?_|refine zb ?_|refine ze rfl ?_|refine zr ?_|refine zk ?_|refine zT rfl rfl rfl ?_|refine zU rfl rfl rfl ?_|refine zV rfl rfl rfl ?_|refine zf rfl ?_|refine zt rfl ?_)
      refine o_alloc rfl rfl rfl rfl ?_
      intro bx w5 hbx hu5
      refine o_storeA (cs := [I d, I x, I y]) rfl hu5.blk (by show 0 + 3 ≤ 3; omega) rfl (by simp [Value.oneCell']) rfl rfl rfl rfl ?_
      intro w6 hu6
      have k6 : Kp [] wc w6 := (hu5.kp [] (.inr (by omega))).since (hu6.kp [bx] (.inl (by simp))) (by simp; omega)
      have hX6 : Blk w6 bx [I d, I x, I y] 56 := hu6.blk
      have kk6 := hI.kp.trans k6
      have hS6 := hI.seqs.kp0 k6
      have next : ∀ (w' : World), Kp [] w0 w' → Seqs w0 w' g.sqs g.adS g.capS g.wts g.adW g.capW g.Cst → BInv0 w0 es.length { g with i := g.i + 1 } w' :=
        fun w' h1 h4 => ⟨h1, h4, hI.same, by have := hI.few; show g.sqs.length ≤ g.i + 1; omega, by show g.i + 1 ≤ es.length; omega⟩
      (repeat first|refine zA ?_|refine zB ?_|refine zC ?_|refine zD ?_|refine zE ?_|refine zg ?_|refine zo rfl rfl (by first|exact trivial|(simp only[AllP];omega)|(simp(discharger:=omega)only[AllP,cA,cB];omega)|(simp only[AllP,cC,cD,cE,cF,cG];omega)) ?_|refine zn ?_|refine zb ?_|refine ze rfl ?_|refine zr ?_|refine zk ?_|refine zT rfl rfl rfl ?_|refine zU rfl rfl rfl ?_|refine zV rfl rfl rfl ?_|refine zf rfl ?_|refine zt rfl ?_)
      refine o_load rfl hX6 rfl rfl rfl rfl rfl ?_
      (repeat first|refine zA ?_|refine zB ?_|refine zC ?_|refine zD ?_|refine zE ?_|refine zg ?_|refine zo rfl rfl (by first|exact trivial|(simp only[AllP];omega)|(simp(discharger:=omega)only[AllP,cA,cB];omega)|(simp only[AllP,cC,cD,cE,cF,cG];omega)) ?_|refine zn ?_|refine zb ?_|refine ze rfl ?_|refine zr ?_|refine zk ?_|refine zT rfl rfl rfl ?_|refine zU rfl rfl rfl ?_|refine zV rfl rfl rfl ?_|refine zf rfl ?_|refine zt rfl ?_)
      refine r_if (p := d = 0) rfl (fun hd0 => ?_) (fun hd0 => ?_)
      · (repeat first|refine zA ?_|refine zB ?_|refine zC ?_|refine zD ?_|refine zE ?_|refine zg ?_|refine zo rfl rfl (by first|exact trivial|(simp only[AllP];omega)|(simp(discharger:=omega)only[AllP,cA,cB];omega)|(simp only[AllP,cC,cD,cE,cF,cG];omega)) ?_|refine zn ?_|refine zb ?_|refine ze rfl ?_|refine zr ?_|refine zk ?_|refine zT rfl rfl rfl ?_|refine zU rfl rfl rfl ?_|refine zV rfl rfl rfl ?_|refine zf rfl ?_|refine zt rfl ?_)
        refine r_seq ?_
        refine r_mix (fun w' => Blk w' bx [I d, I x, I y] 56) [(0, false), (1, false), (2, false), (3, false), (4, false), (7, false), (8, false), (9, false), (10, false), (11, false), (5, true), (6, true), (12, true), (13, false)] follows_mixed (by kernel_rfl) (by kernel_rfl) (by kernel_rfl) ((Sm.drew w6).blk hX6) ?_
        have kd := (Sm.drew w6).kp []
        have hX6 := kd.blk (by simp) hX6
        have hS6 := hS6.kp0 kd
        have kk6 := kk6.trans kd
        generalize ({ w6 with drawn := w6.drawn + 1 } : World) = w6 at hX6 hS6 kk6 ⊢
        (repeat first|refine xo rfl rfl (by first|exact trivial|(simp only[AllP];omega)|(simp(discharger:=omega)only[AllP,cA,cB];omega)|(simp only[AllP,cC,cD,cE,cF,cG];omega)) ?_|refine xn ?_|refine x_know rfl _ _ (some true) rfl rfl rfl ?_|refine x_know rfl _ _ (some false) rfl rfl rfl ?_|refine x_know rfl _ _ none rfl rfl rfl ?_)
        refine x_load rfl rfl (fun w' h' => h'.cell rfl) rfl rfl rfl rfl ?_
        (repeat first|refine xo rfl rfl (by first|exact trivial|(simp only[AllP];omega)|(simp(discharger:=omega)only[AllP,cA,cB];omega)|(simp only[AllP,cC,cD,cE,cF,cG];omega)) ?_|refine xn ?_|refine x_know rfl _ _ (some true) rfl rfl rfl ?_|refine x_know rfl _ _ (some false) rfl rfl rfl ?_|refine x_know rfl _ _ none rfl rfl rfl ?_)
        refine x_load rfl rfl (fun w' h' => h'.cell rfl) rfl rfl rfl rfl ?_
        (repeat first|refine xo rfl rfl (by first|exact trivial|(simp only[AllP];omega)|(simp(discharger:=omega)only[AllP,cA,cB];omega)|(simp only[AllP,cC,cD,cE,cF,cG];omega)) ?_|refine xn ?_|refine x_know rfl _ _ (some true) rfl rfl rfl ?_|refine x_know rfl _ _ (some false) rfl rfl rfl ?_|refine x_know rfl _ _ none rfl rfl rfl ?_)
        refine x_load rfl rfl (fun w' h' => h'.cell rfl) rfl rfl rfl rfl ?_
        (repeat first|refine xo rfl rfl (by first|exact trivial|(simp only[AllP];omega)|(simp(discharger:=omega)only[AllP,cA,cB];omega)|(simp only[AllP,cC,cD,cE,cF,cG];omega)) ?_|refine xn ?_|refine x_know rfl _ _ (some true) rfl rfl rfl ?_|refine x_know rfl _ _ (some false) rfl rfl rfl ?_|refine x_know rfl _ _ none rfl rfl rfl ?_)
        refine x_load rfl rfl (fun w' h' => h'.cell rfl) rfl rfl rfl rfl ?_
        (repeat first|refine xo rfl rfl (by first|exact trivial|(simp only[AllP];omega)|(simp(discharger:=omega)only[AllP,cA,cB];omega)|(simp only[AllP,cC,cD,cE,cF,cG];omega)) ?_|refine xn ?_|refine x_know rfl _ _ (some true) rfl rfl rfl ?_|refine x_know rfl _ _ (some false) rfl rfl rfl ?_|refine x_know rfl _ _ none rfl rfl rfl ?_)
        refine x_act rfl ?_
        refine o_call Link_nil rfl rfl rfl ?_
        rintro v w7 ⟨rfl, rfl⟩
        refine o_nil ⟨.inr hX6, ?_⟩
        refine x_act rfl ?_
        refine o_call (num_ret 1) rfl rfl rfl ?_
        rintro v w8 ⟨rfl, rfl⟩
        refine o_nil ⟨.inr hX6, ?_⟩
        refine x_act rfl ?_
        refine o_call rLink_nil rfl rfl rfl ?_
        rintro v w7 ⟨rfl, rfl⟩
        refine o_nil ⟨.inr hX6, ?_⟩
        (repeat first|refine xo rfl rfl (by first|exact trivial|(simp only[AllP];omega)|(simp(discharger:=omega)only[AllP,cA,cB];omega)|(simp only[AllP,cC,cD,cE,cF,cG];omega)) ?_|refine xn ?_|refine x_know rfl _ _ (some true) rfl rfl rfl ?_|refine x_know rfl _ _ (some false) rfl rfl rfl ?_|refine x_know rfl _ _ none rfl rfl rfl ?_)
        (repeat first|refine zA ?_|refine zB ?_|refine zC ?_|refine zD ?_|refine zE ?_|refine zg ?_|refine zo rfl rfl (by first|exact trivial|(simp only[AllP];omega)|(simp(discharger:=omega)only[AllP,cA,cB];omega)|(simp only[AllP,cC,cD,cE,cF,cG];omega)) ?_|refine zn ?_|refine zb ?_|refine ze rfl ?_|refine zr ?_|refine zk ?_|refine zT rfl rfl rfl ?_|refine zU rfl rfl rfl ?_|refine zV rfl rfl rfl ?_|refine zf rfl ?_|refine zt rfl ?_)
        exact ⟨_, rfl, next _ kk6 hS6, by dsimp only; omega⟩
      (repeat first|refine zA ?_|refine zB ?_|refine zC ?_|refine zD ?_|refine zE ?_|refine zg ?_|refine zo rfl rfl (by first|exact trivial|(simp only[AllP];omega)|(simp(discharger:=omega)only[AllP,cA,cB];omega)|(simp only[AllP,cC,cD,cE,cF,cG];omega)) ?_|refine zn ?_|refine zb ?_|refine ze rfl ?_|refine zr ?_|refine zk ?_|refine zT rfl rfl rfl ?_|refine zU rfl rfl rfl ?_|refine zV rfl rfl rfl ?_|refine zf rfl ?_|refine zt rfl ?_)
      refine r_if (p := d = 1) rfl (fun hd1 => ?_) (fun hd1 => ?_)
      · (repeat first|refine zA ?_|refine zB ?_|refine zC ?_|refine zD ?_|refine zE ?_|refine zg ?_|refine zo rfl rfl (by first|exact trivial|(simp only[AllP];omega)|(simp(discharger:=omega)only[AllP,cA,cB];omega)|(simp only[AllP,cC,cD,cE,cF,cG];omega)) ?_|refine zn ?_|refine zb ?_|refine ze rfl ?_|refine zr ?_|refine zk ?_|refine zT rfl rfl rfl ?_|refine zU rfl rfl rfl ?_|refine zV rfl rfl rfl ?_|refine zf rfl ?_|refine zt rfl ?_)
        refine o_load rfl hX6 rfl rfl rfl rfl rfl ?_
        (repeat first|refine zA ?_|refine zB ?_|refine zC ?_|refine zD ?_|refine zE ?_|refine zg ?_|refine zo rfl rfl (by first|exact trivial|(simp only[AllP];omega)|(simp(discharger:=omega)only[AllP,cA,cB];omega)|(simp only[AllP,cC,cD,cE,cF,cG];omega)) ?_|refine zn ?_|refine zb ?_|refine ze rfl ?_|refine zr ?_|refine zk ?_|refine zT rfl rfl rfl ?_|refine zU rfl rfl rfl ?_|refine zV rfl rfl rfl ?_|refine zf rfl ?_|refine zt rfl ?_)
        refine o_call Row_nil rfl rfl rfl ?_
        rintro v w7 ⟨rfl, rfl⟩
        (repeat first|refine zA ?_|refine zB ?_|refine zC ?_|refine zD ?_|refine zE ?_|refine zg ?_|refine zo rfl rfl (by first|exact trivial|(simp only[AllP];omega)|(simp(discharger:=omega)only[AllP,cA,cB];omega)|(simp only[AllP,cC,cD,cE,cF,cG];omega)) ?_|refine zn ?_|refine zb ?_|refine ze rfl ?_|refine zr ?_|refine zk ?_|refine zT rfl rfl rfl ?_|refine zU rfl rfl rfl ?_|refine zV rfl rfl rfl ?_|refine zf rfl ?_|refine zt rfl ?_)
        refine o_load rfl hX6 rfl rfl rfl rfl rfl ?_
        (repeat first|refine zA ?_|refine zB ?_|refine zC ?_|refine zD ?_|refine zE ?_|refine zg ?_|refine zo rfl rfl (by first|exact trivial|(simp only[AllP];omega)|(simp(discharger:=omega)only[AllP,cA,cB];omega)|(simp only[AllP,cC,cD,cE,cF,cG];omega)) ?_|refine zn ?_|refine zb ?_|refine ze rfl ?_|refine zr ?_|refine zk ?_|refine zT rfl rfl rfl ?_|refine zU rfl rfl rfl ?_|refine zV rfl rfl rfl ?_|refine zf rfl ?_|refine zt rfl ?_)
        refine o_call rRow_nil rfl rfl rfl ?_
        rintro v w8 ⟨rfl, rfl⟩
        have hX8 := hX6
        (repeat first|refine zA ?_|refine zB ?_|refine zC ?_|refine zD ?_|refine zE ?_|refine zg ?_|refine zo rfl rfl (by first|exact trivial|(simp only[AllP];omega)|(simp(discharger:=omega)only[AllP,cA,cB];omega)|(simp only[AllP,cC,cD,cE,cF,cG];omega)) ?_|refine zn ?_|refine zb ?_|refine ze rfl ?_|refine zr ?_|refine zk ?_|refine zT rfl rfl rfl ?_|refine zU rfl rfl rfl ?_|refine zV rfl rfl rfl ?_|refine zf rfl ?_|refine zt rfl ?_)
        refine r_seq ?_
        refine r_seq ?_
        refine r_mix (fun w' => Blk w' bx [I d, I x, I y] 56) [(0, false), (1, false), (2, false), (3, false), (4, false), (6, false), (7, false), (8, false), (9, false), (10, false), (5, true), (11, true), (12, false), (13, false), (14, false), (16, false), (15, true), (17, false), (18, false), (19, false), (20, false), (21, false), (22, false), (23, false), (24, false), (25, false), (26, false), (27, false), (29, false), (28, true), (30, true), (31, true), (32, false), (33, false)] follows_mixed (by kernel_rfl) (by kernel_rfl) (by kernel_rfl) ((Sm.drew w8).blk hX8) ?_
        have kd := (Sm.drew w8).kp []
        have hX9 := kd.blk (by simp) hX8
        have hS9 := hS6.kp0 kd
        generalize ({ w8 with drawn := w8.drawn + 1 } : World) = w9 at hS9 hX9 kd ⊢
        (repeat first|refine xo rfl rfl (by first|exact trivial|(simp only[AllP];omega)|(simp(discharger:=omega)only[AllP,cA,cB];omega)|(simp only[AllP,cC,cD,cE,cF,cG];omega)) ?_|refine xn ?_|refine x_know rfl _ _ (some true) rfl rfl rfl ?_|refine x_know rfl _ _ (some false) rfl rfl rfl ?_|refine x_know rfl _ _ none rfl rfl rfl ?_)
        refine x_load rfl rfl (fun w' h' => h'.cell rfl) rfl rfl rfl rfl ?_
        (repeat first|refine xo rfl rfl (by first|exact trivial|(simp only[AllP];omega)|(simp(discharger:=omega)only[AllP,cA,cB];omega)|(simp only[AllP,cC,cD,cE,cF,cG];omega)) ?_|refine xn ?_|refine x_know rfl _ _ (some true) rfl rfl rfl ?_|refine x_know rfl _ _ (some false) rfl rfl rfl ?_|refine x_know rfl _ _ none rfl rfl rfl ?_)
        refine x_load rfl rfl (fun w' h' => h'.cell rfl) rfl rfl rfl rfl ?_
        (repeat first|refine xo rfl rfl (by first|exact trivial|(simp only[AllP];omega)|(simp(discharger:=omega)only[AllP,cA,cB];omega)|(simp only[AllP,cC,cD,cE,cF,cG];omega)) ?_|refine xn ?_|refine x_know rfl _ _ (some true) rfl rfl rfl ?_|refine x_know rfl _ _ (some false) rfl rfl rfl ?_|refine x_know rfl _ _ none rfl rfl rfl ?_)
        refine x_load rfl rfl (fun w' h' => h'.cell rfl) rfl rfl rfl rfl ?_
        (repeat first|refine xo rfl rfl (by first|exact trivial|(simp only[AllP];omega)|(simp(discharger:=omega)only[AllP,cA,cB];omega)|(simp only[AllP,cC,cD,cE,cF,cG];omega)) ?_|refine xn ?_|refine x_know rfl _ _ (some true) rfl rfl rfl ?_|refine x_know rfl _ _ (some false) rfl rfl rfl ?_|refine x_know rfl _ _ none rfl rfl rfl ?_)
        refine x_load rfl rfl (fun w' h' => h'.cell rfl) rfl rfl rfl rfl ?_
        (repeat first|refine xo rfl rfl (by first|exact trivial|(simp only[AllP];omega)|(simp(discharger:=omega)only[AllP,cA,cB];omega)|(simp only[AllP,cC,cD,cE,cF,cG];omega)) ?_|refine xn ?_|refine x_know rfl _ _ (some true) rfl rfl rfl ?_|refine x_know rfl _ _ (some false) rfl rfl rfl ?_|refine x_know rfl _ _ none rfl rfl rfl ?_)
        refine x_act rfl ?_
        refine o_call (Linked_nil x y) rfl rfl rfl ?_
        rintro v wq ⟨rfl, rfl⟩
        refine o_nil ⟨.inr hX9, ?_⟩
        refine x_act rfl ?_
        refine o_call (rLinked_nil x y) rfl rfl rfl ?_
        rintro v wr ⟨rfl, rfl⟩
        refine o_nil ⟨.inr hX9, ?_⟩
        (repeat first|refine xo rfl rfl (by first|exact trivial|(simp only[AllP];omega)|(simp(discharger:=omega)only[AllP,cA,cB];omega)|(simp only[AllP,cC,cD,cE,cF,cG];omega)) ?_|refine xn ?_|refine x_know rfl _ _ (some true) rfl rfl rfl ?_|refine x_know rfl _ _ (some false) rfl rfl rfl ?_|refine x_know rfl _ _ none rfl rfl rfl ?_)
        refine x_act rfl ?_
        refine o_call (num_ret 1) rfl rfl rfl ?_
        rintro v wq ⟨rfl, rfl⟩
        refine o_nil ⟨.inr hX9, ?_⟩
        (repeat first|refine xo rfl rfl (by first|exact trivial|(simp only[AllP];omega)|(simp(discharger:=omega)only[AllP,cA,cB];omega)|(simp only[AllP,cC,cD,cE,cF,cG];omega)) ?_|refine xn ?_|refine x_know rfl _ _ (some true) rfl rfl rfl ?_|refine x_know rfl _ _ (some false) rfl rfl rfl ?_|refine x_know rfl _ _ none rfl rfl rfl ?_)
        refine x_act rfl ?_
        refine o_call (List_nil hS9.tab) rfl rfl rfl ?_
        rintro v w10 ⟨a10, c10, rfl, hn10⟩
        refine o_nil ⟨.inr (hn10.kp.blk (by simp) hX9), ?_⟩
        refine x_act rfl ?_
        refine o_call refList_nil rfl rfl rfl ?_
        rintro v w11 ⟨rfl, rfl⟩
        refine o_nil ⟨.inr (hn10.kp.blk (by simp) hX9), ?_⟩
        refine x_act rfl ?_
        refine o_call (same_yes (l := []) (ad2 := none) (n1 := 0) (n2 := 0) hn10.read rfl rfl rfl (by omega)) rfl rfl rfl ?_
        rintro v w12 ⟨rfl, hs12⟩
        have k912 := hn10.kp.trans (hs12.kp [])
        refine o_nil ⟨.inr (k912.blk (by simp) hX9), ?_⟩
        (repeat first|refine xo rfl rfl (by first|exact trivial|(simp only[AllP];omega)|(simp(discharger:=omega)only[AllP,cA,cB];omega)|(simp only[AllP,cC,cD,cE,cF,cG];omega)) ?_|refine xn ?_|refine x_know rfl _ _ (some true) rfl rfl rfl ?_|refine x_know rfl _ _ (some false) rfl rfl rfl ?_|refine x_know rfl _ _ none rfl rfl rfl ?_)
        (repeat first|refine zA ?_|refine zB ?_|refine zC ?_|refine zD ?_|refine zE ?_|refine zg ?_|refine zo rfl rfl (by first|exact trivial|(simp only[AllP];omega)|(simp(discharger:=omega)only[AllP,cA,cB];omega)|(simp only[AllP,cC,cD,cE,cF,cG];omega)) ?_|refine zn ?_|refine zb ?_|refine ze rfl ?_|refine zr ?_|refine zk ?_|refine zT rfl rfl rfl ?_|refine zU rfl rfl rfl ?_|refine zV rfl rfl rfl ?_|refine zf rfl ?_|refine zt rfl ?_)
        have k612 := kd.trans k912
        exact ⟨_, rfl, next _ (kk6.trans k612) (hS6.kp0 k612), by dsimp only; omega⟩
      (repeat first|refine zA ?_|refine zB ?_|refine zC ?_|refine zD ?_|refine zE ?_|refine zg ?_|refine zo rfl rfl (by first|exact trivial|(simp only[AllP];omega)|(simp(discharger:=omega)only[AllP,cA,cB];omega)|(simp only[AllP,cC,cD,cE,cF,cG];omega)) ?_|refine zn ?_|refine zb ?_|refine ze rfl ?_|refine zr ?_|refine zk ?_|refine zT rfl rfl rfl ?_|refine zU rfl rfl rfl ?_|refine zV rfl rfl rfl ?_|refine zf rfl ?_|refine zt rfl ?_)
      refine r_if (p := d = 2) rfl (fun hd2 => ?_) (fun hd2 => ?_)
      · (repeat first|refine zA ?_|refine zB ?_|refine zC ?_|refine zD ?_|refine zE ?_|refine zg ?_|refine zo rfl rfl (by first|exact trivial|(simp only[AllP];omega)|(simp(discharger:=omega)only[AllP,cA,cB];omega)|(simp only[AllP,cC,cD,cE,cF,cG];omega)) ?_|refine zn ?_|refine zb ?_|refine ze rfl ?_|refine zr ?_|refine zk ?_|refine zT rfl rfl rfl ?_|refine zU rfl rfl rfl ?_|refine zV rfl rfl rfl ?_|refine zf rfl ?_|refine zt rfl ?_)
        refine o_call Close_nil rfl rfl rfl ?_
        rintro v w7 ⟨rfl, rfl⟩
        (repeat first|refine zA ?_|refine zB ?_|refine zC ?_|refine zD ?_|refine zE ?_|refine zg ?_|refine zo rfl rfl (by first|exact trivial|(simp only[AllP];omega)|(simp(discharger:=omega)only[AllP,cA,cB];omega)|(simp only[AllP,cC,cD,cE,cF,cG];omega)) ?_|refine zn ?_|refine zb ?_|refine ze rfl ?_|refine zr ?_|refine zk ?_|refine zT rfl rfl rfl ?_|refine zU rfl rfl rfl ?_|refine zV rfl rfl rfl ?_|refine zf rfl ?_|refine zt rfl ?_)
        refine o_call (num_ret 1) rfl rfl rfl ?_
        rintro v w8 ⟨rfl, rfl⟩
        (repeat first|refine zA ?_|refine zB ?_|refine zC ?_|refine zD ?_|refine zE ?_|refine zg ?_|refine zo rfl rfl (by first|exact trivial|(simp only[AllP];omega)|(simp(discharger:=omega)only[AllP,cA,cB];omega)|(simp only[AllP,cC,cD,cE,cF,cG];omega)) ?_|refine zn ?_|refine zb ?_|refine ze rfl ?_|refine zr ?_|refine zk ?_|refine zT rfl rfl rfl ?_|refine zU rfl rfl rfl ?_|refine zV rfl rfl rfl ?_|refine zf rfl ?_|refine zt rfl ?_)
        refine o_call rClose_nil rfl rfl rfl ?_
        rintro v w9 ⟨rfl, rfl⟩
        (repeat first|refine zA ?_|refine zB ?_|refine zC ?_|refine zD ?_|refine zE ?_|refine zg ?_|refine zo rfl rfl (by first|exact trivial|(simp only[AllP];omega)|(simp(discharger:=omega)only[AllP,cA,cB];omega)|(simp only[AllP,cC,cD,cE,cF,cG];omega)) ?_|refine zn ?_|refine zb ?_|refine ze rfl ?_|refine zr ?_|refine zk ?_|refine zT rfl rfl rfl ?_|refine zU rfl rfl rfl ?_|refine zV rfl rfl rfl ?_|refine zf rfl ?_|refine zt rfl ?_)
        exact ⟨_, rfl, next _ kk6 hS6, by dsimp only; omega⟩
      (repeat first|refine zA ?_|refine zB ?_|refine zC ?_|refine zD ?_|refine zE ?_|refine zg ?_|refine zo rfl rfl (by first|exact trivial|(simp only[AllP];omega)|(simp(discharger:=omega)only[AllP,cA,cB];omega)|(simp only[AllP,cC,cD,cE,cF,cG];omega)) ?_|refine zn ?_|refine zb ?_|refine ze rfl ?_|refine zr ?_|refine zk ?_|refine zT rfl rfl rfl ?_|refine zU rfl rfl rfl ?_|refine zV rfl rfl rfl ?_|refine zf rfl ?_|refine zt rfl ?_)
      refine r_if (p := d = 3) rfl (fun hd3 => ?_) (fun hd3 => ?_)
      · (repeat first|refine zA ?_|refine zB ?_|refine zC ?_|refine zD ?_|refine zE ?_|refine zg ?_|refine zo rfl rfl (by first|exact trivial|(simp only[AllP];omega)|(simp(discharger:=omega)only[AllP,cA,cB];omega)|(simp only[AllP,cC,cD,cE,cF,cG];omega)) ?_|refine zn ?_|refine zb ?_|refine ze rfl ?_|refine zr ?_|refine zk ?_|refine zT rfl rfl rfl ?_|refine zU rfl rfl rfl ?_|refine zV rfl rfl rfl ?_|refine zf rfl ?_|refine zt rfl ?_)
        refine o_call Pairs_nil rfl rfl rfl ?_
        rintro v w7 ⟨Fp, hseq, k7, hnew7⟩
        refine o_call (pairs_ret hseq (by simp) (most := -1) (by decide)) rfl rfl rfl ?_
        rintro v w8 ⟨ad8, cap8, rfl, hn8⟩
        have e1 : pairsN ([] : List (Nat × Nat)) (-1) = [] := rfl
        rw [e1] at hn8 ⊢
        (repeat first|refine zA ?_|refine zB ?_|refine zC ?_|refine zD ?_|refine zE ?_|refine zg ?_|refine zo rfl rfl (by first|exact trivial|(simp only[AllP];omega)|(simp(discharger:=omega)only[AllP,cA,cB];omega)|(simp only[AllP,cC,cD,cE,cF,cG];omega)) ?_|refine zn ?_|refine zb ?_|refine ze rfl ?_|refine zr ?_|refine zk ?_|refine zT rfl rfl rfl ?_|refine zU rfl rfl rfl ?_|refine zV rfl rfl rfl ?_|refine zf rfl ?_|refine zt rfl ?_)
        refine o_call Turned_nil rfl rfl rfl ?_
        rintro v w9 ⟨rfl, rfl⟩
        (repeat first|refine zA ?_|refine zB ?_|refine zC ?_|refine zD ?_|refine zE ?_|refine zg ?_|refine zo rfl rfl (by first|exact trivial|(simp only[AllP];omega)|(simp(discharger:=omega)only[AllP,cA,cB];omega)|(simp only[AllP,cC,cD,cE,cF,cG];omega)) ?_|refine zn ?_|refine zb ?_|refine ze rfl ?_|refine zr ?_|refine zk ?_|refine zT rfl rfl rfl ?_|refine zU rfl rfl rfl ?_|refine zV rfl rfl rfl ?_|refine zf rfl ?_|refine zt rfl ?_)
        refine o_call Pairs_nil rfl rfl rfl ?_
        rintro v w10 ⟨Fp2, hseq2, k10, hnew10⟩
        refine o_call (pairs_ret hseq2 (by simp) (most := -1) (by decide)) rfl rfl rfl ?_
        rintro v w11 ⟨ad11, cap11, rfl, hn11⟩
        rw [e1] at hn11 ⊢
        have k911 := k10.trans hn11.kp
        have q1 := hn11.read
        have q2 := hn8.read.kp k911 (by simp)
        rw [map_encI] at q1 q2
        (repeat first|refine zA ?_|refine zB ?_|refine zC ?_|refine zD ?_|refine zE ?_|refine zg ?_|refine zo rfl rfl (by first|exact trivial|(simp only[AllP];omega)|(simp(discharger:=omega)only[AllP,cA,cB];omega)|(simp only[AllP,cC,cD,cE,cF,cG];omega)) ?_|refine zn ?_|refine zb ?_|refine ze rfl ?_|refine zr ?_|refine zk ?_|refine zT rfl rfl rfl ?_|refine zU rfl rfl rfl ?_|refine zV rfl rfl rfl ?_|refine zf rfl ?_|refine zt rfl ?_)
        refine o_call (same_yes q1 q2 (by simp) (by simp) (by simp [flatP])) rfl rfl rfl ?_
        rintro v w12 ⟨rfl, hs12⟩
        have k612 := ((k7.trans hn8.kp).trans k911).trans (hs12.kp [])
        (repeat first|refine zA ?_|refine zB ?_|refine zC ?_|refine zD ?_|refine zE ?_|refine zg ?_|refine zo rfl rfl (by first|exact trivial|(simp only[AllP];omega)|(simp(discharger:=omega)only[AllP,cA,cB];omega)|(simp only[AllP,cC,cD,cE,cF,cG];omega)) ?_|refine zn ?_|refine zb ?_|refine ze rfl ?_|refine zr ?_|refine zk ?_|refine zT rfl rfl rfl ?_|refine zU rfl rfl rfl ?_|refine zV rfl rfl rfl ?_|refine zf rfl ?_|refine zt rfl ?_)
        refine o_call Link_nil rfl rfl rfl ?_
        rintro v w13 ⟨rfl, rfl⟩
        (repeat first|refine zA ?_|refine zB ?_|refine zC ?_|refine zD ?_|refine zE ?_|refine zg ?_|refine zo rfl rfl (by first|exact trivial|(simp only[AllP];omega)|(simp(discharger:=omega)only[AllP,cA,cB];omega)|(simp only[AllP,cC,cD,cE,cF,cG];omega)) ?_|refine zn ?_|refine zb ?_|refine ze rfl ?_|refine zr ?_|refine zk ?_|refine zT rfl rfl rfl ?_|refine zU rfl rfl rfl ?_|refine zV rfl rfl rfl ?_|refine zf rfl ?_|refine zt rfl ?_)
        refine o_call rTurned_nil rfl rfl rfl ?_
        rintro v w14 ⟨rfl, rfl⟩
        (repeat first|refine zA ?_|refine zB ?_|refine zC ?_|refine zD ?_|refine zE ?_|refine zg ?_|refine zo rfl rfl (by first|exact trivial|(simp only[AllP];omega)|(simp(discharger:=omega)only[AllP,cA,cB];omega)|(simp only[AllP,cC,cD,cE,cF,cG];omega)) ?_|refine zn ?_|refine zb ?_|refine ze rfl ?_|refine zr ?_|refine zk ?_|refine zT rfl rfl rfl ?_|refine zU rfl rfl rfl ?_|refine zV rfl rfl rfl ?_|refine zf rfl ?_|refine zt rfl ?_)
        exact ⟨_, rfl, next _ (kk6.trans k612) (hS6.kp0 k612), by dsimp only; omega⟩
      (repeat first|refine zA ?_|refine zB ?_|refine zC ?_|refine zD ?_|refine zE ?_|refine zg ?_|refine zo rfl rfl (by first|exact trivial|(simp only[AllP];omega)|(simp(discharger:=omega)only[AllP,cA,cB];omega)|(simp only[AllP,cC,cD,cE,cF,cG];omega)) ?_|refine zn ?_|refine zb ?_|refine ze rfl ?_|refine zr ?_|refine zk ?_|refine zT rfl rfl rfl ?_|refine zU rfl rfl rfl ?_|refine zV rfl rfl rfl ?_|refine zf rfl ?_|refine zt rfl ?_)
      refine r_if (p := d = 4) rfl (fun hd4 => ?_) (fun hd4 => ?_)
      · (repeat first|refine zA ?_|refine zB ?_|refine zC ?_|refine zD ?_|refine zE ?_|refine zg ?_|refine zo rfl rfl (by first|exact trivial|(simp only[AllP];omega)|(simp(discharger:=omega)only[AllP,cA,cB];omega)|(simp only[AllP,cC,cD,cE,cF,cG];omega)) ?_|refine zn ?_|refine zb ?_|refine ze rfl ?_|refine zr ?_|refine zk ?_|refine zT rfl rfl rfl ?_|refine zU rfl rfl rfl ?_|refine zV rfl rfl rfl ?_|refine zf rfl ?_|refine zt rfl ?_)
        have hfew := hI.few
        have hle := hI.le
        have hwl : g.wts.length = g.sqs.length := by have := congrArg List.length hI.same; simpa using this.symm
        refine o_call (Pairs_nil' hS6.tab) rfl rfl rfl ?_
        rintro v w7 ⟨Fp, hseq, k7, hnew7⟩
        have hseq0 := hseq
        obtain ⟨f, lb, rfl, hIt⟩ := hseq.is
        (repeat first|refine zA ?_|refine zB ?_|refine zC ?_|refine zD ?_|refine zE ?_|refine zg ?_|refine zo rfl rfl (by first|exact trivial|(simp only[AllP];omega)|(simp(discharger:=omega)only[AllP,cA,cB];omega)|(simp only[AllP,cC,cD,cE,cF,cG];omega)) ?_|refine zn ?_|refine zb ?_|refine ze rfl ?_|refine zr ?_|refine zk ?_|refine zT rfl rfl rfl ?_|refine zU rfl rfl rfl ?_|refine zV rfl rfl rfl ?_|refine zf rfl ?_|refine zt rfl ?_)
        refine o_buildSlice [.func (.func f) #[] ⟨lb⟩] rfl (by simp [Value.oneCell']) rfl (by decide) (by decide) rfl rfl rfl rfl rfl ?_
        intro b8 w8 hb8 hu8
        have k8 : Kp [] w7 w8 := hu8.kp [] (.inr (by omega))
        have k78 := k7.trans k8
        have hS8 := hS6.kp0 k78
        refine o_append1 rfl rfl hS8.sq hu8.blk rfl rfl rfl rfl (by simp only [maxLen]; omega) (by omega) rfl rfl ?_
        intro ad9 cap9 w9 ho9 k9 hnew9
        have hs8 := hseq0.kp k8 (by simp)
        have hS9 := hS6.push1 kk6 k78 (by simp [Value.oneCell']) (by simp) hs8 hnew7 ho9 k9 hnew9
        have kk9 : Kp [] w0 w9 := (kk6.trans k78).since k9 (fun b hb => hS6.new b (.inl hb))
        (repeat first|refine zA ?_|refine zB ?_|refine zC ?_|refine zD ?_|refine zE ?_|refine zg ?_|refine zo rfl rfl (by first|exact trivial|(simp only[AllP];omega)|(simp(discharger:=omega)only[AllP,cA,cB];omega)|(simp only[AllP,cC,cD,cE,cF,cG];omega)) ?_|refine zn ?_|refine zb ?_|refine ze rfl ?_|refine zr ?_|refine zk ?_|refine zT rfl rfl rfl ?_|refine zU rfl rfl rfl ?_|refine zV rfl rfl rfl ?_|refine zf rfl ?_|refine zt rfl ?_)
        refine o_call (rPairs_nil) rfl rfl rfl ?_
        rintro v w10 ⟨rfl, rfl⟩
        obtain ⟨a10, ha10⟩ : ∃ a : Option Addr, a = none := ⟨none, rfl⟩
        obtain ⟨c10, hc10⟩ : ∃ a : Nat, a = 0 := ⟨0, rfl⟩
        have hn10 : NewS w10 3 w10 a10 (flatP []).length c10 ((flatP []).map encI) := by subst ha10 hc10; exact ⟨ownS_nil _ _ _, Kp.refl _ _, by simp [blkOf]⟩
        have hv10 : Value.slice none 0 0 = .slice a10 (flatP []).length c10 := by subst ha10 hc10; rfl
        rw [hv10]
        (repeat first|refine zA ?_|refine zB ?_|refine zC ?_|refine zD ?_|refine zE ?_|refine zg ?_|refine zo rfl rfl (by first|exact trivial|(simp only[AllP];omega)|(simp(discharger:=omega)only[AllP,cA,cB];omega)|(simp only[AllP,cC,cD,cE,cF,cG];omega)) ?_|refine zn ?_|refine zb ?_|refine ze rfl ?_|refine zr ?_|refine zk ?_|refine zT rfl rfl rfl ?_|refine zU rfl rfl rfl ?_|refine zV rfl rfl rfl ?_|refine zf rfl ?_|refine zt rfl ?_)
        refine o_buildSlice [.slice a10 (flatP (([] : List (Nat × Nat)))).length c10] rfl (by simp [Value.oneCell']) rfl (by decide) (by decide) rfl rfl rfl rfl rfl ?_
        intro b11 w11 hb11 hu11
        have k11 : Kp [] w10 w11 := hu11.kp [] (.inr (by omega))
        refine o_append1 rfl rfl ((hS9.kp0 (hn10.kp.trans k11)).wt) hu11.blk rfl rfl rfl rfl (by simp only [maxLen]; omega) (by omega) rfl rfl ?_
        intro ad12 cap12 w12 ho12 k12 hnew12
        have hS12 := hS9.push2 kk9 hn10 k11 ho12 k12 hnew12
        have kk11 := (kk9.trans hn10.kp).trans k11
        have kk12 : Kp [] w0 w12 := kk11.since k12 (fun b hb => hS9.new b (.inr hb))
        (repeat first|refine zA ?_|refine zB ?_|refine zC ?_|refine zD ?_|refine zE ?_|refine zg ?_|refine zo rfl rfl (by first|exact trivial|(simp only[AllP];omega)|(simp(discharger:=omega)only[AllP,cA,cB];omega)|(simp only[AllP,cC,cD,cE,cF,cG];omega)) ?_|refine zn ?_|refine zb ?_|refine ze rfl ?_|refine zr ?_|refine zk ?_|refine zT rfl rfl rfl ?_|refine zU rfl rfl rfl ?_|refine zV rfl rfl rfl ?_|refine zf rfl ?_|refine zt rfl ?_)
        refine ⟨{ g with i := g.i + 1, sqs := g.sqs ++ [(.func (.func f) #[] ⟨lb⟩, [])], adS := ad9, capS := cap9, wts := g.wts ++ [(a10, c10, [])], adW := ad12, capW := cap12, Cst := blkOf a10 ++ (Fp ++ g.Cst) }, ?_, ⟨kk12, hS12, ?_, ?_, ?_⟩, ?_⟩
        · dsimp only; rw [List.length_append, List.length_append]; rfl
        · dsimp only; rw [List.map_append, List.map_append, hI.same]; rfl
        · dsimp only; rw [List.length_append]; simp; omega
        · dsimp only; omega
        · dsimp only; omega
      (repeat first|refine zA ?_|refine zB ?_|refine zC ?_|refine zD ?_|refine zE ?_|refine zg ?_|refine zo rfl rfl (by first|exact trivial|(simp only[AllP];omega)|(simp(discharger:=omega)only[AllP,cA,cB];omega)|(simp only[AllP,cC,cD,cE,cF,cG];omega)) ?_|refine zn ?_|refine zb ?_|refine ze rfl ?_|refine zr ?_|refine zk ?_|refine zT rfl rfl rfl ?_|refine zU rfl rfl rfl ?_|refine zV rfl rfl rfl ?_|refine zf rfl ?_|refine zt rfl ?_)
      exact ⟨_, rfl, next _ kk6 hS6, by dsimp only; omega⟩
    · have hwl : g.wts.length = g.sqs.length := by have := congrArg List.length hI.same; simpa using this.symm
      (repeat first|refine zA ?_|refine zB ?_|refine zC ?_|refine zD ?_|refine zE ?_|refine zg ?_|refine zo rfl rfl (by first|exact trivial|(simp only[AllP];omega)|(simp(discharger:=omega)only[AllP,cA,cB];omega)|(simp only[AllP,cC,cD,cE,cF,cG];omega)) ?_|refine zn ?_|refine zb ?_|refine ze rfl ?_|refine zr ?_|refine zk ?_|refine zT rfl rfl rfl ?_|refine zU rfl rfl rfl ?_|refine zV rfl rfl rfl ?_|refine zf rfl ?_|refine zt rfl ?_)
      refine r_loop (α := Nat) [5, 7, 9, 10, 19] (fun j => [.pointer none, .pointer none, .slice g.adS g.sqs.length g.capS, .slice g.adW g.wts.length g.capW, I j]) (fun j wd => Kp [] wc wd ∧ j ≤ g.sqs.length) (fun j => g.sqs.length - j) 0 rfl ⟨Kp.refl _ _, by omega⟩ ?_
      rintro j e wd ⟨kd, hj⟩
      have hfew := hI.few
      have hle := hI.le
      have hSd := hI.seqs.kp0 kd
      (repeat first|refine zA ?_|refine zB ?_|refine zC ?_|refine zD ?_|refine zE ?_|refine zg ?_|refine zo rfl rfl (by first|exact trivial|(simp only[AllP];omega)|(simp(discharger:=omega)only[AllP,cA,cB];omega)|(simp only[AllP,cC,cD,cE,cF,cG];omega)) ?_|refine zn ?_|refine zb ?_|refine ze rfl ?_|refine zr ?_|refine zk ?_|refine zT rfl rfl rfl ?_|refine zU rfl rfl rfl ?_|refine zV rfl rfl rfl ?_|refine zf rfl ?_|refine zt rfl ?_)
      refine r_if rfl (fun hc2 => ?_) (fun hc2 => ?_)
      · have hjl : j < g.sqs.length := by omega
        obtain ⟨s, hs⟩ : ∃ s, g.sqs[j]? = some s := ⟨_, List.getElem?_eq_getElem hjl⟩
        obtain ⟨t, ht⟩ : ∃ t, g.wts[j]? = some t := ⟨_, List.getElem?_eq_getElem (by omega)⟩
        have hst : s.2 = t.2.2 := by
          have := congrArg (fun l => l[j]?) hI.same
          simp only [List.getElem?_map, hs, ht] at this
          simpa using this
        obtain ⟨_, hxl, Fp, hsp, hFp⟩ := hSd.sqi s (List.mem_of_getElem? hs)
        obtain ⟨hto, _⟩ := hSd.wti t (List.mem_of_getElem? ht)
        obtain ⟨v, xs⟩ := s
        obtain ⟨ta, tc, ts⟩ := t
        dsimp only at hst hsp hto hxl
        subst hst
        obtain ⟨bS, oS, hSe, _, hcS⟩ := hSd.sq.read.at_ (by simp; omega)
        obtain ⟨bW, oW, hWe, _, hcW⟩ := hSd.wt.read.at_ (by simp; omega)
        have hfl := flatP_len xs
        have hcap := hto.le_cap
        rw [hSe, hWe]
        (repeat first|refine zA ?_|refine zB ?_|refine zC ?_|refine zD ?_|refine zE ?_|refine zg ?_|refine zo rfl rfl (by first|exact trivial|(simp only[AllP];omega)|(simp(discharger:=omega)only[AllP,cA,cB];omega)|(simp only[AllP,cC,cD,cE,cF,cG];omega)) ?_|refine zn ?_|refine zb ?_|refine ze rfl ?_|refine zr ?_|refine zk ?_|refine zT rfl rfl rfl ?_|refine zU rfl rfl rfl ?_|refine zV rfl rfl rfl ?_|refine zf rfl ?_|refine zt rfl ?_)
        refine r_seq ?_
        refine r_mix (fun w' => Kp [] wd w') [(0, false), (1, false), (2, false), (3, false), (5, false), (6, false), (7, false), (8, false), (4, true), (9, true), (10, false), (11, false), (12, false), (13, false), (14, false), (15, false), (17, false), (18, false), (19, false), (20, false), (21, false), (22, false), (23, false), (24, false), (25, false), (26, false), (27, false), (16, true), (28, true), (29, false), (30, false)] follows_mixed (by kernel_rfl) (by kernel_rfl) (by kernel_rfl) ((Sm.drew wd).kp []) ?_
        have hk0 := (Sm.drew wd).kp []
        generalize ({ wd with drawn := wd.drawn + 1 } : World) = we at hk0 ⊢
        have fS : ∀ w', Kp [] wd w' → w'.cell? ⟨bS, oS + j, none⟩ = some v := fun w' hk => by
          rw [← hcS j v (by rw [List.getElem?_map, hs]; rfl)]
          exact World.cell?_of_block (hk.at_ bS (by have := hSd.sq.lt bS (by rw [hSe]; simp [blkOf]); exact this) (by simp))
        have fW : ∀ w', Kp [] wd w' → w'.cell? ⟨bW, oW + j, none⟩ = some (.slice ta (flatP xs).length tc) := fun w' hk => by
          rw [← hcW j _ (by rw [List.getElem?_map, ht]; rfl)]
          exact World.cell?_of_block (hk.at_ bW (by have := hSd.wt.lt bW (by rw [hWe]; simp [blkOf]); exact this) (by simp))
        (repeat first|refine xo rfl rfl (by first|exact trivial|(simp only[AllP];omega)|(simp(discharger:=omega)only[AllP,cA,cB];omega)|(simp only[AllP,cC,cD,cE,cF,cG];omega)) ?_|refine xn ?_|refine x_know rfl _ _ (some true) rfl rfl rfl ?_|refine x_know rfl _ _ (some false) rfl rfl rfl ?_|refine x_know rfl _ _ none rfl rfl rfl ?_)
        refine x_load (v := v) rfl rfl fS rfl rfl rfl rfl ?_
        (repeat first|refine xo rfl rfl (by first|exact trivial|(simp only[AllP];omega)|(simp(discharger:=omega)only[AllP,cA,cB];omega)|(simp only[AllP,cC,cD,cE,cF,cG];omega)) ?_|refine xn ?_|refine x_know rfl _ _ (some true) rfl rfl rfl ?_|refine x_know rfl _ _ (some false) rfl rfl rfl ?_|refine x_know rfl _ _ none rfl rfl rfl ?_)
        refine x_load (v := .slice ta (flatP xs).length tc) rfl rfl fW rfl rfl rfl rfl ?_
        (repeat first|refine xo rfl rfl (by first|exact trivial|(simp only[AllP];omega)|(simp(discharger:=omega)only[AllP,cA,cB];omega)|(simp only[AllP,cC,cD,cE,cF,cG];omega)) ?_|refine xn ?_|refine x_know rfl _ _ (some true) rfl rfl rfl ?_|refine x_know rfl _ _ (some false) rfl rfl rfl ?_|refine x_know rfl _ _ none rfl rfl rfl ?_)
        refine x_act rfl ?_
        have hse := hsp.kp hk0 (by simp)
        refine o_call (pairs_ret hse hxl (most := -1) (by decide)) rfl rfl rfl ?_
        rintro v1 w9 ⟨ad9, cap9, rfl, hn9⟩
        have e1 : pairsN xs (-1) = xs := rfl
        rw [e1] at hn9 ⊢
        have k9 := hk0.trans hn9.kp
        refine o_nil ⟨.inr k9, ?_⟩
        (repeat first|refine xo rfl rfl (by first|exact trivial|(simp only[AllP];omega)|(simp(discharger:=omega)only[AllP,cA,cB];omega)|(simp only[AllP,cC,cD,cE,cF,cG];omega)) ?_|refine xn ?_|refine x_know rfl _ _ (some true) rfl rfl rfl ?_|refine x_know rfl _ _ (some false) rfl rfl rfl ?_|refine x_know rfl _ _ none rfl rfl rfl ?_)
        refine x_act rfl ?_
        have q1 := hn9.read
        have q2 := hto.read.kp k9 (by simp)
        rw [map_encI] at q1 q2
        refine o_call (same_yes q1 q2 (by simp) (by simp) (by omega)) rfl rfl rfl ?_
        rintro v2 w10 ⟨rfl, hs10⟩
        have k10 := k9.trans (hs10.kp [])
        refine o_nil ⟨.inr k10, ?_⟩
        (repeat first|refine xo rfl rfl (by first|exact trivial|(simp only[AllP];omega)|(simp(discharger:=omega)only[AllP,cA,cB];omega)|(simp only[AllP,cC,cD,cE,cF,cG];omega)) ?_|refine xn ?_|refine x_know rfl _ _ (some true) rfl rfl rfl ?_|refine x_know rfl _ _ (some false) rfl rfl rfl ?_|refine x_know rfl _ _ none rfl rfl rfl ?_)
        refine x_load (v := v) rfl rfl fS rfl rfl rfl rfl ?_
        (repeat first|refine xo rfl rfl (by first|exact trivial|(simp only[AllP];omega)|(simp(discharger:=omega)only[AllP,cA,cB];omega)|(simp only[AllP,cC,cD,cE,cF,cG];omega)) ?_|refine xn ?_|refine x_know rfl _ _ (some true) rfl rfl rfl ?_|refine x_know rfl _ _ (some false) rfl rfl rfl ?_|refine x_know rfl _ _ none rfl rfl rfl ?_)
        refine x_load (v := .slice ta (flatP xs).length tc) rfl rfl fW rfl rfl rfl rfl ?_
        (repeat first|refine xo rfl rfl (by first|exact trivial|(simp only[AllP];omega)|(simp(discharger:=omega)only[AllP,cA,cB];omega)|(simp only[AllP,cC,cD,cE,cF,cG];omega)) ?_|refine xn ?_|refine x_know rfl _ _ (some true) rfl rfl rfl ?_|refine x_know rfl _ _ (some false) rfl rfl rfl ?_|refine x_know rfl _ _ none rfl rfl rfl ?_)
        refine x_load (v := .slice ta (flatP xs).length tc) rfl rfl fW rfl rfl rfl rfl ?_
        (repeat first|refine xo rfl rfl (by first|exact trivial|(simp only[AllP];omega)|(simp(discharger:=omega)only[AllP,cA,cB];omega)|(simp only[AllP,cC,cD,cE,cF,cG];omega)) ?_|refine xn ?_|refine x_know rfl _ _ (some true) rfl rfl rfl ?_|refine x_know rfl _ _ (some false) rfl rfl rfl ?_|refine x_know rfl _ _ none rfl rfl rfl ?_)
        refine x_act rfl ?_
        have hse2 := hsp.kp k10 (by simp)
        refine o_call (pairs_ret hse2 hxl (most := 1) (by decide)) rfl rfl rfl ?_
        rintro v3 w11 ⟨ad11, cap11, rfl, hn11⟩
        have k11 := k10.trans hn11.kp
        refine o_nil ⟨.inr k11, ?_⟩
        refine x_act rfl ?_
        have q3 := hn11.read
        have q4 := (hto.read.kp k11 (by simp)).take (min 2 (flatP xs).length)
        have e2 := pairsN_one xs
        rw [e2] at q3 ⊢
        rw [← List.map_take] at q4
        rw [map_encI] at q3 q4
        have e3 : (min (2 : Int) ((flatP xs).length : Int)).toNat = min 2 (flatP xs).length := by omega
        refine o_call (same_yes (n2 := (min (2 : Int) ((flatP xs).length : Int)).toNat) (c2 := tc) q3 q4 (by simp) (by rw [e3]; simp) (by simp; omega)) rfl rfl rfl ?_
        rintro v4 w12 ⟨rfl, hs12⟩
        have k12 := k11.trans (hs12.kp [])
        refine o_nil ⟨.inr k12, ?_⟩
        (repeat first|refine xo rfl rfl (by first|exact trivial|(simp only[AllP];omega)|(simp(discharger:=omega)only[AllP,cA,cB];omega)|(simp only[AllP,cC,cD,cE,cF,cG];omega)) ?_|refine xn ?_|refine x_know rfl _ _ (some true) rfl rfl rfl ?_|refine x_know rfl _ _ (some false) rfl rfl rfl ?_|refine x_know rfl _ _ none rfl rfl rfl ?_)
        (repeat first|refine zA ?_|refine zB ?_|refine zC ?_|refine zD ?_|refine zE ?_|refine zg ?_|refine zo rfl rfl (by first|exact trivial|(simp only[AllP];omega)|(simp(discharger:=omega)only[AllP,cA,cB];omega)|(simp only[AllP,cC,cD,cE,cF,cG];omega)) ?_|refine zn ?_|refine zb ?_|refine ze rfl ?_|refine zr ?_|refine zk ?_|refine zT rfl rfl rfl ?_|refine zU rfl rfl rfl ?_|refine zV rfl rfl rfl ?_|refine zf rfl ?_|refine zt rfl ?_)
        exact ⟨j + 1, rfl, ⟨kd.trans k12, by omega⟩, by omega⟩
      · skip
        (repeat first|refine zA ?_|refine zB ?_|refine zC ?_|refine zD ?_|refine zE ?_|refine zg ?_|refine zo rfl rfl (by first|exact trivial|(simp only[AllP];omega)|(simp(discharger:=omega)only[AllP,cA,cB];omega)|(simp only[AllP,cC,cD,cE,cF,cG];omega)) ?_|refine zn ?_|refine zb ?_|refine ze rfl ?_|refine zr ?_|refine zk ?_|refine zT rfl rfl rfl ?_|refine zU rfl rfl rfl ?_|refine zV rfl rfl rfl ?_|refine zf rfl ?_|refine zt rfl ?_)
        refine o_call (Pairs_nil' hSd.tab) rfl rfl rfl ?_
        rintro v w8 ⟨Fp, hseq, k8, hnew8⟩
        refine o_call (pairs_ret hseq (by simp) (most := -1) (by decide)) rfl rfl rfl ?_
        rintro v w9 ⟨ad9, cap9, rfl, hn9⟩
        have e1 : pairsN (([] : List (Nat × Nat))) (-1) = ([] : List (Nat × Nat)) := rfl
        rw [e1] at hn9 ⊢
        have k9 := k8.trans hn9.kp
        have hfl := flatP_len (([] : List (Nat × Nat)))
        have hlx : (([] : List (Nat × Nat))).length ≤ 4194304 := by simp
        (repeat first|refine zA ?_|refine zB ?_|refine zC ?_|refine zD ?_|refine zE ?_|refine zg ?_|refine zo rfl rfl (by first|exact trivial|(simp only[AllP];omega)|(simp(discharger:=omega)only[AllP,cA,cB];omega)|(simp only[AllP,cC,cD,cE,cF,cG];omega)) ?_|refine zn ?_|refine zb ?_|refine ze rfl ?_|refine zr ?_|refine zk ?_|refine zT rfl rfl rfl ?_|refine zU rfl rfl rfl ?_|refine zV rfl rfl rfl ?_|refine zf rfl ?_|refine zt rfl ?_)
        refine o_call (rPairs_nil) rfl rfl rfl ?_
        rintro v w10 ⟨rfl, rfl⟩
        have k10 := Kp.refl [] w10
        have q2 : ReadS w10 none ((flatP ([] : List (Nat × Nat))).map encI) := rfl
        have q1 := hn9.read.kp k10 (by simp)
        rw [map_encI] at q1 q2
        refine o_call (same_yes q1 q2 (by simp) rfl (by rw [show flatP ([] : List (Nat × Nat)) = [] from rfl]; simp)) rfl rfl rfl ?_
        rintro v w11 ⟨rfl, hs11⟩
        have k11 := (k9.trans k10).trans (hs11.kp [])
        (repeat first|refine zA ?_|refine zB ?_|refine zC ?_|refine zD ?_|refine zE ?_|refine zg ?_|refine zo rfl rfl (by first|exact trivial|(simp only[AllP];omega)|(simp(discharger:=omega)only[AllP,cA,cB];omega)|(simp only[AllP,cC,cD,cE,cF,cG];omega)) ?_|refine zn ?_|refine zb ?_|refine ze rfl ?_|refine zr ?_|refine zk ?_|refine zT rfl rfl rfl ?_|refine zU rfl rfl rfl ?_|refine zV rfl rfl rfl ?_|refine zf rfl ?_|refine zt rfl ?_)
        refine o_call (Size_nil) rfl rfl rfl ?_
        rintro v w12 ⟨rfl, rfl⟩
        (repeat first|refine zA ?_|refine zB ?_|refine zC ?_|refine zD ?_|refine zE ?_|refine zg ?_|refine zo rfl rfl (by first|exact trivial|(simp only[AllP];omega)|(simp(discharger:=omega)only[AllP,cA,cB];omega)|(simp only[AllP,cC,cD,cE,cF,cG];omega)) ?_|refine zn ?_|refine zb ?_|refine ze rfl ?_|refine zr ?_|refine zk ?_|refine zT rfl rfl rfl ?_|refine zU rfl rfl rfl ?_|refine zV rfl rfl rfl ?_|refine zf rfl ?_|refine zt rfl ?_)
        refine o_call (rSize_nil) rfl rfl rfl ?_
        rintro v w13 ⟨rfl, rfl⟩
        (repeat first|refine zA ?_|refine zB ?_|refine zC ?_|refine zD ?_|refine zE ?_|refine zg ?_|refine zo rfl rfl (by first|exact trivial|(simp only[AllP];omega)|(simp(discharger:=omega)only[AllP,cA,cB];omega)|(simp only[AllP,cC,cD,cE,cF,cG];omega)) ?_|refine zn ?_|refine zb ?_|refine ze rfl ?_|refine zr ?_|refine zk ?_|refine zT rfl rfl rfl ?_|refine zU rfl rfl rfl ?_|refine zV rfl rfl rfl ?_|refine zf rfl ?_|refine zt rfl ?_)
        refine o_call (lives_ret (hSd.tab.kp k11 (by simp))) rfl rfl rfl ?_
        rintro v w14 ⟨rfl, k14⟩
        (repeat first|refine zA ?_|refine zB ?_|refine zC ?_|refine zD ?_|refine zE ?_|refine zg ?_|refine zo rfl rfl (by first|exact trivial|(simp only[AllP];omega)|(simp(discharger:=omega)only[AllP,cA,cB];omega)|(simp only[AllP,cC,cD,cE,cF,cG];omega)) ?_|refine zn ?_|refine zb ?_|refine ze rfl ?_|refine zr ?_|refine zk ?_|refine zT rfl rfl rfl ?_|refine zU rfl rfl rfl ?_|refine zV rfl rfl rfl ?_|refine zf rfl ?_|refine zt rfl ?_)
        exact ⟨_, rfl, rfl, ((hI.kp.trans kd).trans k11).trans k14⟩
end Go.Vc
