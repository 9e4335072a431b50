/- Query: grow. -/
import Derived.Test.YtkgngbpkiklckaaGreatDoorQClQAlike19
import Derived.Test.YtkgngbpkiklckaaGreatDoorQClQAlike10
import Derived.Lib.ItoaNum
namespace Go.Vc
open Go Go.Proofs
set_option maxRecDepth 10000
variable {w : World}
/-- the shape of a tree that is told of -/
def shQ (o : Int) : List Value := shO o.toNat
abbrev GV (r : Option (QT × List QN)) (lo : Nat) (cap : Nat) (bl : List Nat) (v : Value) (w' : World) : Prop :=
  match r with
  | none => v = .tuple #[.pointer none, .slice none 0 0]
  | some (t, r) => ∃ p ad' cap', v = .tuple #[ptr p, .slice ad' r.length cap'] ∧ TreeAt shQ lo w' t p ∧ ReadS w' ad' (r.flatMap qC) ∧ r.length ≤ cap' ∧ cap' ≤ cap ∧ ∀ b ∈ blkOf ad', b ∈ bl
theorem tree_mk {sh : Int → List Value} {lo p cap : Nat} {ad : Option Addr} {op num : Int} {name : List UInt8} {ks : List (Nat × QT)} (hk : ks.length ≤ 2) (hlo : lo ≤ p) (hB : TBlk sh w p op (1 + sumQ (ks.map (·.2)) : Nat) num name (.slice ad ks.length cap)) (hR : ReadS w ad (ks.map fun y => ptr y.1)) (hb : ∀ b ∈ blkOf ad, lo ≤ b) (hT : ∀ y ∈ ks, TreeAt sh lo w y.2 y.1) : TreeAt sh lo w (mkT op num name (ks.map (·.2))) p := by
  match ks, hk with
  | [], _ => exact ⟨hlo, ad, cap, hB⟩
  | [a], _ =>
    have e : 1 + sumQ ([a].map (·.2)) = 1 + a.2.size := by simp [sumQ]
    rw [e] at hB
    exact ⟨hlo, ad, cap, a.1, hB, hR, hb, hT a (by simp)⟩
  | [a, b], _ =>
    have e : 1 + sumQ ([a, b].map (·.2)) = 1 + a.2.size + b.2.size := by simp [sumQ]; omega
    rw [e] at hB
    exact ⟨hlo, ad, cap, a.1, b.1, hB, hR, hb, hT a (by simp), hT b (by simp)⟩
set_option maxHeartbeats 25600000 in
theorem grow_ret : ∀ (f above : Nat) {w : World} {l : List QN} {ad : Option Addr} {cap : Nat}, f + above = 66 → AscW w → ReadS w ad (l.flatMap qC) → l.length ≤ cap → cap ≤ 9223372036854775807 → (∀ x ∈ l, x.name.length ≤ 9223372036854775806) →
    Ret Tryz.prog 72 [.slice ad l.length cap, I above] w (fun v w' => GV (growF f above l) w.heap.size cap (blkOf ad) v w' ∧ Kp [] w w')
  | 0, above, w, l, ad, cap, hf, hA, hR, hc, hm, hnm => by
    have hg : growF 0 above l = none := rfl
    rw [hg]
    refine enter Tryz.call72 Tryz.func72 rfl rfl rfl rfl ?_
    (repeat first|refine zA ?_|refine zB ?_|refine zg ?_|refine zo rfl rfl trivial ?_|refine zn ?_)
    refine o_split _ _ rfl rfl rfl (fun h => ?_) (fun h => ?_)
    · (repeat first|refine zA ?_|refine zg ?_|refine zo rfl rfl trivial ?_|refine zn ?_|refine zr ?_|refine zt rfl ?_)
      exact ⟨_, rfl, rfl, Kp.refl _ _⟩
    · (repeat first|refine zo rfl rfl trivial ?_|refine zn ?_)
      refine r_yes rfl (decide_eq_true (by omega)) ?_
      (repeat first|refine zA ?_|refine zg ?_|refine zo rfl rfl trivial ?_|refine zn ?_|refine zr ?_)
      exact ⟨_, rfl, rfl, Kp.refl _ _⟩
  | f + 1, above, w, [], ad, cap, hf, hA, hR, hc, hm, hnm => by
    have hg : growF (f + 1) above [] = none := rfl
    rw [hg]
    refine enter Tryz.call72 Tryz.func72 rfl rfl rfl rfl ?_
    (repeat first|refine zA ?_|refine zB ?_|refine zg ?_|refine zo rfl rfl trivial ?_|refine zn ?_|refine zr ?_|refine zT rfl rfl rfl ?_|refine zt rfl ?_)
    exact ⟨_, rfl, rfl, Kp.refl _ _⟩
  | f + 1, above, w, x :: r, ad, cap, hf, hA, hR, hc, hm, hnm => by
    obtain ⟨b, off, rfl, hbl, hcell⟩ := hR.at_ (by simp [qC])
    have hx : ∀ j v, (qC x)[j]? = some v → w.cell? ⟨b, off + j, none⟩ = some v := fun j v hv => hcell j v (by
      rw [List.flatMap_cons, List.getElem?_append_left (List.getElem?_eq_some_iff.1 hv).1]; exact hv)
    have hlen : (x :: r).length = r.length + 1 := rfl
    have hg := growF_cons f above x r
    refine enter Tryz.call72 Tryz.func72 rfl rfl rfl rfl ?_
    (repeat first|refine zA ?_|refine zB ?_|refine zg ?_|refine zo rfl rfl trivial ?_|refine zn ?_|refine zU rfl rfl rfl ?_)
    refine r_if rfl (fun hab => ?_) (fun hab => ?_)
    · rw [hg, if_pos (by omega)]
      (repeat first|refine zA ?_|refine zg ?_|refine zo rfl rfl trivial ?_|refine zn ?_|refine zr ?_)
      exact ⟨_, rfl, rfl, Kp.refl _ _⟩
    rw [if_neg (by omega)] at hg
    refine zk ?_
    refine r_seq ?_
    refine r_cut (α := Nat) [0, 1, 6, 7] (fun p => [.slice (some ⟨b, off, none⟩) (r.length + 1) cap, I above, ptr p, .slice (some ⟨b, offS off 1 cap 4, none⟩) r.length (cap - 1)]) (fun p W => Blk W p (qC x) 81 ∧ Kp [] w W ∧ w.heap.size ≤ p) ?_ ?_
    · refine r_mix (fun w' => Kp [] w w') [(0, false), (1, false), (2, false), (3, false), (4, false), (5, true), (6, true), (7, false)] follows_mixed (by kernel_rfl) (by kernel_rfl) (by kernel_rfl) ((Sm.drew w).kp []) ?_
      have sd := (Sm.drew w).kp []
      generalize ({ w with drawn := w.drawn + 1 } : World) = wd at sd ⊢
      (repeat refine xo rfl rfl (by first|exact trivial|(simp only[AllP];omega)) ?_)
      refine x_loadA (vs := qC x) rfl rfl (fun w' h' j v hv => by
        rw [show (off + Int.toNat 0 * 4 + j) = off + j by simp, ← hx j v hv]
        exact World.cell?_of_block (h'.at_ b hbl (by simp))) rfl rfl rfl rfl rfl rfl ?_
      (repeat refine xo rfl rfl (by first|exact trivial|(simp only[AllP];omega)) ?_)
      refine x_act rfl ?_
      refine o_alloc rfl rfl rfl rfl ?_
      intro p w2 hp hu2
      have k2 : Kp [] w w2 := sd.trans (hu2.kp [] (.inr (by omega)))
      refine o_nil ⟨.inr k2, ?_⟩
      refine x_act rfl ?_
      refine o_storeA (b := p) (cs := qC x) rfl hu2.blk (Nat.le_refl _) rfl (by simp [Value.oneCell', qC]) rfl rfl rfl rfl ?_
      intro w3 hu3
      have y2 := sd.size
      have k3 : Kp [] w w3 := k2.since (hu3.kp [p] (.inl (by simp))) (by simp; omega)
      refine o_nil ⟨.inr k3, ?_⟩
      (repeat first|refine xo rfl rfl trivial ?_|refine xn ?_)
      exact ⟨p, rfl, hu3.blk, k3, by omega⟩
    rintro p e1 w1 ⟨hB, k1, hp⟩
    have hRt : ReadS w (some ⟨b, offS off 1 cap 4, none⟩) (r.flatMap qC) := by
      refine ReadS.mk (fun i v hv => ?_)
      have hi := (List.getElem?_eq_some_iff.1 hv).1
      have hrl : 0 < r.length := by rw [rows_cells_len] at hi; omega
      have e : offS off 1 cap 4 = off + 4 := by unfold offS; rw [if_neg (by omega)]
      rw [e, Nat.add_assoc]
      exact hcell (4 + i) v (by rw [List.flatMap_cons, List.getElem?_append_right (by simp [qC])]; simpa [qC] using hv)
    generalize offS off 1 cap 4 = off1 at hRt ⊢
    clear hx hcell hR
    have hpl := hB.lt
    have y1 := k1.size
    (repeat first|refine zA ?_|refine zg ?_)
    refine o_call shapes_ret rfl rfl rfl ?_
    rintro v w2 ⟨rfl, hrS, k2⟩
    have k02 := k1.trans k2
    have hB2 := k2.blk (by simp) hB
    (repeat first|refine zA ?_|refine zB ?_|refine zg ?_|refine zo rfl rfl trivial ?_|refine zn ?_|refine o_load rfl hB2 rfl rfl rfl rfl rfl ?_)
    refine o_bool [0, 1, 6, 7, 8] [.slice (some ⟨b, off, none⟩) (r.length + 1) cap, I above, ptr p, .slice (some ⟨b, off1, none⟩) r.length (cap - 1), .slice (some ⟨w1.heap.size, 0, none⟩) 27 27] 34 (!decide (1 ≤ x.op ∧ x.op ≤ 26)) (fun W => W = w2) ?_ ?_
    · refine o_split _ _ rfl rfl rfl (fun h1 => ?_) (fun h1 => ?_)
      · have h1 : x.op < 1 := of_decide_eq_true h1
        (repeat first|refine zo rfl rfl trivial ?_|refine zn ?_)
        exact ⟨rfl, ⟨_, rfl, by simp; omega⟩, rfl⟩
      · have h1 : ¬ x.op < 1 := of_decide_eq_false h1
        (repeat first|refine zo rfl rfl trivial ?_|refine zn ?_|refine o_load rfl hB2 rfl rfl rfl rfl rfl ?_)
        refine ⟨rfl, ⟨_, rfl, ?_⟩, rfl⟩
        rw [← decide_not, decide_eq_decide]; omega
    rintro e2 w2 rfl
    refine r_ifn rfl (fun hop => ?_) (fun hop => ?_)
    · have ho : ownQ x.op x.num x.name = false := by
        unfold ownQ
        by_cases h : 1 ≤ x.op
        · rw [decide_eq_false (show ¬ x.op ≤ 26 by omega)]; simp
        · rw [decide_eq_false h]; simp
      rw [hg, if_pos ho]
      (repeat first|refine zA ?_|refine zg ?_|refine zo rfl rfl trivial ?_|refine zn ?_|refine zr ?_)
      exact ⟨_, rfl, rfl, k02⟩
    obtain ⟨k, hk, hk1, hk2⟩ : ∃ k : Nat, x.op = k ∧ 1 ≤ k ∧ k ≤ 26 := ⟨x.op.toNat, by omega, by omega, by omega⟩
    have hqC : qC x = [I k, I x.size, I x.num, S x.name] := by unfold qC; rw [hk]
    rw [hqC] at hB2
    refine zk ?_
    refine r_seq ?_
    refine r_cut (α := Nat) [0, 1, 6, 7, 9] (fun q => [.slice (some ⟨b, off, none⟩) (r.length + 1) cap, I above, ptr p, .slice (some ⟨b, off1, none⟩) r.length (cap - 1), ptr q]) (fun q W => TBlk shQ W q k x.size x.num x.name (.slice none 0 0) ∧ Kp [] w2 W ∧ w2.heap.size ≤ q) ?_ ?_
    · refine r_mix (fun w' => Kp [] w2 w') [(0, false), (1, false), (2, false), (3, false), (4, false), (5, false), (6, false), (7, true), (8, false)] follows_mixed (by kernel_rfl) (by kernel_rfl) (by kernel_rfl) ((Sm.drew w2).kp []) ?_
      have sd := (Sm.drew w2).kp []
      generalize ({ w2 with drawn := w2.drawn + 1 } : World) = wd at sd ⊢
      refine x_loadA (vs := [I k, I x.size, I x.num, S x.name]) rfl rfl (fun w' h' j v hv => by rw [Nat.zero_add]; exact (h'.blk (by simp) hB2).cell hv) rfl rfl rfl rfl rfl rfl ?_
      (repeat refine xo rfl rfl trivial ?_)
      refine x_load (v := I k) rfl rfl (fun w' h' => (h'.blk (by simp) hB2).cell rfl) rfl rfl rfl rfl ?_
      (repeat refine xo rfl rfl (by first|exact trivial|(simp only[AllP];omega)) ?_)
      refine x_loadA (vs := shO k) rfl rfl (fun w' h' j v hv => by
        have h := (hrS.kp h' (by simp)) (k * 6 + j) v (flC_get (f := shO) (m := 6) shO_len (List.getElem?_range (show k < 27 by omega)) hv)
        rw [← h, addr_lit, toNat_nat, Nat.add_assoc]) rfl rfl rfl rfl rfl rfl ?_
      refine x_build ([I k, I x.size, I x.num, S x.name] ++ shQ k ++ [.slice none 0 0]) rfl rfl rfl rfl rfl (by kernel_rfl) rfl rfl ?_
      refine x_act rfl ?_
      refine o_box rfl rfl rfl ?_
      intro q w3 hq hu3
      have k3 : Kp [] w2 w3 := sd.trans (hu3.kp [] (.inr (by omega)))
      have y3 := sd.size
      refine o_nil ⟨.inr k3, ?_⟩
      (repeat first|refine xo rfl rfl trivial ?_|refine xn ?_)
      exact ⟨q, rfl, hu3.blk, k3, by omega⟩
    rintro q e3 w3 ⟨hT, k3, hq⟩
    have k03 := k02.trans k3
    have hB3 := k3.blk (by simp) hB2
    have y2 := k02.size
    have hTo : TBlk shQ w3 q k x.size x.num x.name (.slice none 0 0) := hT
    have how : ownQ x.op x.num x.name = (decide (0 ≤ x.num) && (decide (x.num = 0) || decide ((k : Int) = 1)) && (if bindsO k || decide (k = 2) then qName x.name else decide (x.name = []))) := by
      unfold ownQ
      rw [hk, decide_eq_true (show (1 : Int) ≤ k by omega), decide_eq_true (show (k : Int) ≤ 26 by omega), Int.toNat_natCast, show decide ((k : Int) = 2) = decide (k = 2) from decide_eq_decide.2 (by omega)]
      rfl
    (repeat first|refine zA ?_|refine zg ?_|refine zo rfl rfl trivial ?_)
    refine o_load (v := .bool (bindsO k)) rfl hTo rfl rfl rfl rfl rfl ?_
    (repeat refine zo rfl rfl trivial ?_)
    refine o_bool [0, 1, 6, 7, 9] [.slice (some ⟨b, off, none⟩) (r.length + 1) cap, I above, ptr p, .slice (some ⟨b, off1, none⟩) r.length (cap - 1), ptr q] 10 (bindsO k || decide (k = 2)) (fun W => W = w3) ?_ ?_
    · refine o_split _ _ rfl rfl rfl (fun h1 => ?_) (fun h1 => ?_)
      · (repeat first|refine zo rfl rfl trivial ?_|refine zn ?_)
        exact ⟨rfl, ⟨_, rfl, by rw [h1]; rfl⟩, rfl⟩
      · (repeat first|refine zo rfl rfl trivial ?_|refine zn ?_|refine o_load rfl hB3 rfl rfl rfl rfl rfl ?_)
        exact ⟨rfl, ⟨_, rfl, by rw [h1, Bool.false_or, decide_eq_decide]; omega⟩, rfl⟩
    rintro e4 w4 rfl
    generalize (bindsO k || decide (k = 2)) = nb at how ⊢
    have hA4 := hA.kp k03 (by simp)
    have hnl := hnm x (by simp)
    (repeat first|refine zA ?_|refine zB ?_|refine zg ?_|refine zo rfl rfl trivial ?_|refine o_load rfl hB3 rfl rfl rfl rfl rfl ?_)
    refine o_bool [0, 1, 6, 7, 9] [.slice (some ⟨b, off, none⟩) (r.length + 1) cap, I above, ptr p, .slice (some ⟨b, off1, none⟩) r.length (cap - 1), ptr q] 81 (!ownQ x.op x.num x.name) (fun W => Kp [] w4 W) ?_ ?_
    · rw [how]
      refine o_split _ _ rfl rfl rfl (fun h1 => ?_) (fun h1 => ?_)
      · have h1 : x.num < 0 := of_decide_eq_true h1
        (repeat first|refine zo rfl rfl trivial ?_|refine zn ?_|refine zT rfl rfl rfl ?_|refine zV rfl rfl rfl ?_)
        refine ⟨rfl, ⟨_, rfl, by rw [decide_eq_false (show ¬ 0 ≤ x.num by omega)]; rfl⟩, Kp.refl _ _⟩
      have h1 : ¬ x.num < 0 := of_decide_eq_false h1
      (repeat first|refine zo rfl rfl trivial ?_|refine o_load rfl hB3 rfl rfl rfl rfl rfl ?_)
      refine o_split _ _ rfl rfl rfl (fun h2 => ?_) (fun h2 => ?_)
      · have h2 : 0 < x.num := of_decide_eq_true h2
        (repeat first|refine zo rfl rfl trivial ?_|refine o_load rfl hB3 rfl rfl rfl rfl rfl ?_)
        refine o_split _ _ rfl rfl rfl (fun h3 => ?_) (fun h3 => ?_)
        · have h3 : ¬ (k : Int) = 1 := by simpa using h3
          (repeat first|refine zo rfl rfl trivial ?_|refine zn ?_|refine zT rfl rfl rfl ?_|refine zV rfl rfl rfl ?_)
          refine ⟨rfl, ⟨_, rfl, ?_⟩, Kp.refl _ _⟩
          rw [decide_eq_false h3, decide_eq_false (show ¬ x.num = 0 by omega)]; simp
        · have h3 : (k : Int) = 1 := by simpa using h3
          have hnum : (decide (0 ≤ x.num) && (decide (x.num = 0) || decide ((k : Int) = 1)) && (if nb then qName x.name else decide (x.name = []))) = (if nb then qName x.name else decide (x.name = [])) := by
            rw [decide_eq_true h3, decide_eq_true (show 0 ≤ x.num by omega)]; simp
          (repeat first|refine zo rfl rfl trivial ?_|refine o_load rfl hB3 rfl rfl rfl rfl rfl ?_)
          refine o_split _ _ rfl rfl rfl (fun h4 => ?_) (fun h4 => ?_)
          · (repeat first|refine zo rfl rfl trivial ?_|refine zn ?_|refine zV rfl rfl rfl ?_)
            refine ⟨rfl, ⟨_, rfl, ?_⟩, Kp.refl _ _⟩
            rw [hnum]
            cases nb with
            | true =>
              have : x.name = [] := by simpa using h4
              rw [this]; rfl
            | false =>
              have : x.name ≠ [] := by simpa using h4
              simp [this]
          · have hnb : nb = !decide (x.name = []) := by simpa using h4
            (repeat refine zo rfl rfl trivial ?_)
            refine o_split _ _ rfl rfl rfl (fun h5 => ?_) (fun h5 => ?_)
            · subst h5
              (repeat first|refine zo rfl rfl trivial ?_|refine o_load rfl hB3 rfl rfl rfl rfl rfl ?_)
              refine o_call (isName_ret hA4 x.name hnl) rfl rfl rfl ?_
              rintro v w5 ⟨rfl, k5⟩
              (repeat first|refine zo rfl rfl trivial ?_|refine zn ?_)
              refine ⟨rfl, ⟨_, rfl, ?_⟩, k5⟩
              rw [hnum]; simp
            · subst h5
              (repeat first|refine zo rfl rfl trivial ?_|refine zn ?_)
              refine ⟨rfl, ⟨_, rfl, ?_⟩, Kp.refl _ _⟩
              have : x.name = [] := by simpa using hnb
              rw [hnum, this]; rfl
      · have h2 : ¬ 0 < x.num := of_decide_eq_false h2
        have hnum : (decide (0 ≤ x.num) && (decide (x.num = 0) || decide ((k : Int) = 1)) && (if nb then qName x.name else decide (x.name = []))) = (if nb then qName x.name else decide (x.name = [])) := by
          rw [decide_eq_true (show x.num = 0 by omega), decide_eq_true (show 0 ≤ x.num by omega)]; simp
        (repeat first|refine zo rfl rfl trivial ?_|refine zU rfl rfl rfl ?_|refine o_load rfl hB3 rfl rfl rfl rfl rfl ?_)
        refine o_split _ _ rfl rfl rfl (fun h4 => ?_) (fun h4 => ?_)
        · (repeat first|refine zo rfl rfl trivial ?_|refine zn ?_|refine zV rfl rfl rfl ?_)
          refine ⟨rfl, ⟨_, rfl, ?_⟩, Kp.refl _ _⟩
          rw [hnum]
          cases nb with
          | true =>
            have : x.name = [] := by simpa using h4
            rw [this]; rfl
          | false =>
            have : x.name ≠ [] := by simpa using h4
            simp [this]
        · have hnb : nb = !decide (x.name = []) := by simpa using h4
          (repeat refine zo rfl rfl trivial ?_)
          refine o_split _ _ rfl rfl rfl (fun h5 => ?_) (fun h5 => ?_)
          · subst h5
            (repeat first|refine zo rfl rfl trivial ?_|refine o_load rfl hB3 rfl rfl rfl rfl rfl ?_)
            refine o_call (isName_ret hA4 x.name hnl) rfl rfl rfl ?_
            rintro v w5 ⟨rfl, k5⟩
            (repeat first|refine zo rfl rfl trivial ?_|refine zn ?_)
            refine ⟨rfl, ⟨_, rfl, ?_⟩, k5⟩
            rw [hnum]; simp
          · subst h5
            (repeat first|refine zo rfl rfl trivial ?_|refine zn ?_)
            refine ⟨rfl, ⟨_, rfl, ?_⟩, Kp.refl _ _⟩
            have : x.name = [] := by simpa using hnb
            rw [hnum, this]; rfl
    rintro e5 w5 k5
    have k05 := k03.trans k5
    have hT5 := k5.blk (by simp) hTo
    have hB5 := k5.blk (by simp) hB3
    cases ho : ownQ x.op x.num x.name with
    | false =>
      rw [hg, if_pos ho]
      (repeat first|refine zA ?_|refine zg ?_|refine zo rfl rfl trivial ?_|refine zn ?_|refine zr ?_|refine zt rfl ?_)
      exact ⟨_, rfl, rfl, k05⟩
    | true =>
    rw [if_neg (by rw [ho]; simp)] at hg
    have hkn : x.op.toNat = k := by rw [hk]; rfl
    rw [hkn] at hg
    have hkd := kidsO_le k
    have hql := hT5.lt
    have hrt : r.length ≤ cap - 1 := by omega
    (repeat first|refine zA ?_|refine zB ?_|refine zg ?_|refine zo rfl rfl trivial ?_|refine zk ?_|refine zf rfl ?_)
    refine o_load (v := I (kidsO k)) rfl hT5 rfl rfl rfl rfl rfl ?_
    (repeat first|refine zo rfl rfl trivial ?_|refine zn ?_|refine zb ?_)
    refine r_loop (α := List (Nat × QT) × Option Addr × Nat × List QN × Option Addr × Nat) [0, 1, 6, 7, 9, 86, 87] (fun s => [.slice (some ⟨b, off, none⟩) (r.length + 1) cap, I above, ptr p, .slice s.2.2.2.2.1 s.2.2.2.1.length s.2.2.2.2.2, ptr q, I (kidsO k), I s.1.length])
      (fun s W => s.1.length ≤ kidsO k ∧ growK f (above + 1) s.1.length r = some (s.1.map (·.2), s.2.2.2.1) ∧ Kp [q] w5 W ∧ TBlk shQ W q k x.size x.num x.name (.slice s.2.1 s.1.length s.2.2.1) ∧ OwnS W 87 1 s.2.1 s.1.length s.2.2.1 (s.1.map fun y => ptr y.1) ∧ (∀ c ∈ blkOf s.2.1, w5.heap.size ≤ c) ∧ (∀ c ∈ blkOf s.2.2.2.2.1, c = b) ∧
        ReadS W s.2.2.2.2.1 (s.2.2.2.1.flatMap qC) ∧ s.2.2.2.1.length ≤ s.2.2.2.2.2 ∧ s.2.2.2.2.2 ≤ cap ∧ (∀ y ∈ s.2.2.2.1, y ∈ r) ∧
        ∀ y ∈ s.1, ∃ Wy loy F, TreeAt shQ loy Wy y.2 y.1 ∧ q < loy ∧ Kp F Wy W ∧ (∀ b ∈ F, b < loy) ∧ ∀ b ∈ blkOf s.2.1, b < loy ∨ Wy.heap.size ≤ b)
      (fun s => kidsO k - s.1.length) ([], none, 0, r, some ⟨b, off1, none⟩, cap - 1) rfl ⟨by simp, rfl, Kp.refl _ _, hT5, ownS_nil _ _ _, by simp [blkOf], by simp [blkOf], hRt.kp k05 (by simp), hrt, by dsimp only; omega, by simp, by simp⟩ ?_
    rintro ⟨ks, bad, bcap, r', rad, rcap⟩ e6 W ⟨hkl, hgk, kW, hTW, hOW, hbq, hrb, hRW, hrc, hrcap, hrm, htr⟩
    dsimp only at hkl hgk hTW hOW hbq hrb hRW hrc hrcap hrm htr ⊢
    have k0W : Kp [] w W := k05.since kW (by simp; omega)
    (repeat first|refine zA ?_|refine zD ?_|refine zg ?_|refine zo rfl rfl trivial ?_|refine zn ?_)
    refine r_if rfl (fun hlt => ?_) (fun hlt => ?_)
    · (repeat first|refine zA ?_|refine zB ?_|refine zC ?_|refine zg ?_|refine zo rfl rfl (by first|exact trivial|(simp only[AllP];omega)) ?_|refine zn ?_|refine zb ?_|refine zk ?_)
      refine o_call (grow_ret f (above + 1) (w := W) (l := r') (ad := rad) (cap := rcap) (by omega) (hA.kp k0W (by simp)) hRW hrc (by omega) (fun y hy => hnm y (by simp; right; exact hrm y hy))) rfl rfl rfl ?_
      rintro v W1 ⟨hv, kg⟩
      cases hgf : growF f (above + 1) r' with
      | none =>
        rw [hgf] at hv
        have hv : v = .tuple #[.pointer none, .slice none 0 0] := hv
        subst hv
        have h1 := growK_none ks.length (kidsO k - ks.length - 1) r r' _ hgk hgf
        rw [show ks.length + 1 + (kidsO k - ks.length - 1) = kidsO k by omega] at h1
        rw [h1] at hg
        rw [hg]
        (repeat first|refine zA ?_|refine zg ?_|refine zo rfl rfl trivial ?_|refine zn ?_|refine zr ?_|refine zt rfl ?_)
        exact ⟨_, rfl, rfl, k0W.trans kg⟩
      | some y =>
        obtain ⟨t, r2⟩ := y
        rw [hgf] at hv
        obtain ⟨tp, rad2, rcap2, rfl, hTt, hR2, hrc2, hrcap2, hrb2⟩ := hv
        have h1 := growK_snoc ks.length r r' r2 _ t hgk hgf
        have hTW1 := kg.blk (by simp) hTW
        have hsf := kW.size
        have hsg := kg.size
        (repeat first|refine zA ?_|refine zg ?_|refine zo rfl rfl trivial ?_|refine zn ?_|refine zk ?_|refine zf rfl ?_)
        refine o_load (v := .slice bad ks.length bcap) rfl hTW1 rfl rfl rfl rfl rfl ?_
        (repeat refine zo rfl rfl trivial ?_)
        refine o_buildSlice [ptr tp] rfl (by simp [Value.oneCell']) rfl (by decide) (by decide) rfl rfl rfl rfl rfl ?_
        intro b2 W2 hb2 hu2
        have kg2 : Kp [] W1 W2 := hu2.kp [] (.inr (by omega))
        have hsg2 := kg2.size
        refine o_append1 rfl rfl ((hOW.kp kg (by simp)).kp kg2 (by simp)) hu2.blk rfl rfl rfl rfl (by simp only [maxLen]; omega) (by omega) rfl rfl ?_
        intro bad' bcap' W3 hO3 k23 hn3
        have k13 : Kp (blkOf bad) W1 W3 := (kg2.mono (by simp)).trans k23
        have hqb : q ∉ blkOf bad := fun h => by have := hbq q h; omega
        have hTW3 : TBlk shQ W3 q k x.size x.num x.name (.slice bad ks.length bcap) := k13.blk hqb hTW1
        have hbq' : ∀ c ∈ blkOf bad', w5.heap.size ≤ c := fun c hc => by
          rcases hn3 c hc with h | h
          · exact hbq c h
          · omega
        (repeat refine zo rfl rfl trivial ?_)
        refine o_store (b := q) (off := 10) (v := .slice bad' (ks.length + 1) bcap') rfl hTW3 (by simp [shQ, shO]) rfl rfl rfl rfl rfl rfl ?_
        intro W4 hu4
        (repeat first|refine zg ?_|refine zo rfl rfl (by first|exact trivial|(simp only[AllP];omega)) ?_|refine zn ?_)
        have k34 : Kp [q] W3 W4 := hu4.kp [q] (.inl (by simp))
        have kWW : Kp [q] w5 W4 := by
          exact ((kW.trans (kg.mono (by simp))).after k13 (fun c hc => .inr (hbq c hc))).trans k34
        have hlen1 : (ks ++ [(tp, t)]).length = ks.length + 1 := by simp
        have k14 : Kp (blkOf bad ++ [q]) W1 W4 := (k13.mono (by simp +contextual)).trans (k34.mono (by simp))
        have hqb' : q ∉ blkOf bad' := fun h => by have := hbq' q h; omega
        refine ⟨(ks ++ [(tp, t)], bad', bcap', r2, rad2, rcap2), ?_, ⟨?_, ?_, kWW, ?_, ?_, hbq', ?_, ?_, hrc2, ?_, ?_, ?_⟩, ?_⟩
        · dsimp only; rw [hlen1]; rfl
        · dsimp only; omega
        · dsimp only; rw [hlen1, List.map_append]; exact h1
        · dsimp only; rw [hlen1]; exact hu4.blk
        · dsimp only; rw [hlen1, List.map_append]; exact hO3.upd hu4 hqb'
        · intro c hc; exact hrb c (hrb2 c hc)
        · dsimp only
          refine hR2.kp k14 (fun c hc => ?_)
          have e := hrb c (hrb2 c hc)
          subst e
          simp only [List.mem_append, List.mem_singleton, not_or]
          exact ⟨fun h => by have := hbq _ h; omega, by omega⟩
        · dsimp only; omega
        · intro y hy; exact hrm y ((growF_suf _ _ _ _ _ hgf).mem hy)
        · intro y hy
          dsimp only at hy ⊢
          rcases List.mem_append.1 hy with hy | hy
          · obtain ⟨Wy, loy, F, g1, g2, g3, g4, g5⟩ := htr y hy
            have hs3 := g3.size
            refine ⟨Wy, loy, F ++ ((blkOf bad).filter (· < loy) ++ [q]), g1, g2, ?_, fun c hc => ?_, fun c hc => ?_⟩
            · have e1 : Kp (F ++ ((blkOf bad).filter (· < loy) ++ [q])) Wy W1 := (g3.mono (by simp +contextual)).trans (kg.mono (by simp))
              refine e1.after k14 (fun c hc => ?_)
              rcases List.mem_append.1 hc with h | h
              · rcases g5 c h with h' | h'
                · left; simp [h, h']
                · exact .inr h'
              · left; simp at h; simp [h]
            · simp only [List.mem_append, List.mem_filter, decide_eq_true_eq, List.mem_singleton] at hc
              rcases hc with h | ⟨_, h⟩ | rfl
              · exact g4 c h
              · exact h
              · exact g2
            · rcases hn3 c hc with h | h
              · exact g5 c h
              · right; omega
          · simp at hy
            subst hy
            refine ⟨W1, W.heap.size, blkOf bad ++ [q], hTt, by omega, k14, fun c hc => ?_, fun c hc => ?_⟩
            · rcases List.mem_append.1 hc with h | h
              · exact hOW.lt c h
              · simp at h; omega
            · rcases hn3 c hc with h | h
              · exact .inl (hOW.lt c h)
              · right; omega
        · dsimp only; omega
    · have hke : ks.length = kidsO k := by omega
      rw [hke] at hgk
      rw [hgk] at hg
      dsimp only at hg
      obtain ⟨hl1, hl2⟩ := growK_len (growF_len f (above + 1)) _ _ _ _ hgk
      have hpq : p ∉ [q] := by
        have := k2.size
        simp; omega
      have hBW := kW.blk hpq hB5
      (repeat first|refine zA ?_|refine zB ?_|refine zg ?_|refine zo rfl rfl (by first|exact trivial|(simp only[AllP];omega)) ?_|refine zn ?_|refine ze rfl ?_|refine o_load rfl hBW rfl rfl rfl rfl rfl ?_)
      refine r_ifn rfl (fun hsz => ?_) (fun hsz => ?_)
      · rw [hg, if_neg (by intro h; apply hsz; rw [h]; omega)]
        (repeat first|refine zA ?_|refine zg ?_|refine zo rfl rfl trivial ?_|refine zn ?_|refine zr ?_)
        exact ⟨_, rfl, rfl, k0W⟩
      · have hsz : x.size = 1 + sumQ (ks.map (·.2)) := by omega
        rw [hg, if_pos hsz]
        (repeat first|refine zA ?_|refine zg ?_|refine zo rfl rfl trivial ?_|refine zn ?_|refine zr ?_|refine zk ?_)
        refine ⟨_, rfl, ⟨q, rad, rcap, rfl, ?_, hRW, hrc, hrcap, fun c hc => by rw [hrb c hc]; simp [blkOf]⟩, k0W⟩
        rw [hk]
        refine tree_mk (lo := w.heap.size) (p := q) (cap := bcap) (by omega) (by omega) ?_ hOW.read (fun c hc => by have := hbq c hc; have := k05.size; omega) (fun y hy => ?_)
        · have e : ((1 + sumQ (ks.map (·.2)) : Nat) : Int) = x.size := by omega
          rw [e]; exact hTW
        · obtain ⟨Wy, loy, F, g1, g2, g3, g4, _⟩ := htr y hy
          exact (g1.kp g3 g4).lo_le (by omega)
end Go.Vc
/- Query: a tree's text, in plain Lean (no program in sight). -/
namespace Go.Vc
open Go
/-- in brackets, if the kid wants them -/
def brk (t : QT) (s : List UInt8) : List UInt8 := if callO t.op.toNat = true ∨ kidsO t.op.toNat = 0 then s else 40 :: (s ++ [41])
/-- a tree's text -/
def toldM : QT → List UInt8
  | .n0 op num name => if op = 1 then Lib.decDigits num.toNat else if op = 2 then name else opWord op.toNat
  | .n1 op _ name a =>
    if callO op.toNat then opWord op.toNat ++ [40] ++ toldM a ++ [41]
    else if bindsO op.toNat then opWord op.toNat ++ [32] ++ name ++ [58, 32] ++ toldM a
    else opWord op.toNat ++ (if op = 17 then [32] else []) ++ brk a (toldM a)
  | .n2 op _ _ a b =>
    if callO op.toNat then opWord op.toNat ++ [40] ++ toldM a ++ [44, 32] ++ toldM b ++ [41]
    else brk a (toldM a) ++ [32] ++ opWord op.toNat ++ [32] ++ brk b (toldM b)
/-- P30.3 as the program has it -/
def printM (l : List QN) : Except Int (List UInt8) :=
  match wholeM l with
  | none => .error 305
  | some t => if 4096 < l.length then .error 3 else if 4096 < (toldM t).length then .error 3 else .ok (toldM t)
end Go.Vc
/- Query: tokens without their places, in plain Lean (no program in sight). -/
namespace Go.Vc
open Go
/-- a token without its place -/
structure T0 where
  text : List UInt8
  num : Int
  deriving DecidableEq
/-- the tokens of a stream; none: a byte begins none -/
def TS.strip : TS → Option (List T0)
  | .stop _ => some []
  | .bad _ => none
  | .tok t r => r.strip.map (⟨t.text, t.num⟩ :: ·)
/-- the tokens of a text -/
def tk (l : List UInt8) : Option (List T0) := (lexF (l.length + 1) 0 l).strip
/-- may a word, a number, a mark end ahead of this? -/
def stopB : List UInt8 → Bool
  | [] => true
  | c :: _ => !letterB c && !digitB c && !decide (c = 61)
end Go.Vc
/- Query: a printed tree's tokens, in plain Lean (no program in sight). -/
namespace Go.Vc
open Go
/-- a tree that may be, but for its names' binding and its sorts -/
def goodT : QT → Prop
  | .n0 op num name => (op = 1 ∧ 0 ≤ num ∧ num ≤ 9223372036854775807 ∧ name = []) ∨ (op = 2 ∧ num = 0 ∧ qName name = true) ∨ (op = 3 ∧ num = 0 ∧ name = [])
  | .n1 op num name a => num = 0 ∧ goodT a ∧ ((op = 4 ∨ op = 8 ∨ op = 9 ∨ op = 10 ∨ op = 17) ∧ name = [] ∨ (op = 22 ∨ op = 23 ∨ op = 24 ∨ op = 25 ∨ op = 26) ∧ qName name = true)
  | .n2 op num name a b => num = 0 ∧ goodT a ∧ goodT b ∧ name = [] ∧ (op = 5 ∨ op = 6 ∨ op = 7 ∨ op = 11 ∨ op = 12 ∨ op = 13 ∨ op = 14 ∨ op = 15 ∨ op = 16 ∨ op = 18 ∨ op = 19 ∨ op = 20 ∨ op = 21)
/-- a word's or a mark's token -/
def wT (s : List UInt8) : T0 := ⟨s, -1⟩
def brkT (t : QT) (s : List T0) : List T0 := if callO t.op.toNat = true ∨ kidsO t.op.toNat = 0 then s else wT [40] :: (s ++ [wT [41]])
/-- the tokens of a printed tree -/
def tokM : QT → List T0
  | .n0 op num name => if op = 1 then [⟨Lib.decDigits num.toNat, num⟩] else if op = 2 then [wT name] else [wT (opWord op.toNat)]
  | .n1 op _ name a =>
    if callO op.toNat then wT (opWord op.toNat) :: wT [40] :: (tokM a ++ [wT [41]])
    else if bindsO op.toNat then wT (opWord op.toNat) :: wT name :: wT [58] :: tokM a
    else wT (opWord op.toNat) :: brkT a (tokM a)
  | .n2 op _ _ a b =>
    if callO op.toNat then wT (opWord op.toNat) :: wT [40] :: (tokM a ++ wT [44] :: (tokM b ++ [wT [41]]))
    else brkT a (tokM a) ++ wT (opWord op.toNat) :: brkT b (tokM b)
/-- how blanks and brackets may be widened -/
structure Wide (φ : UInt8 → List UInt8) : Prop where
  other : ∀ c, c ≠ 32 → c ≠ 40 → c ≠ 41 → φ c = [c]
  blank : ∀ b, tk (φ 32 ++ b) = tk b
  lp : ∀ b, tk (φ 40 ++ b) = (tk b).map (wT [40] :: ·)
  rp : ∀ b, tk (φ 41 ++ b) = (tk b).map (wT [41] :: ·)
  sblank : ∀ b, stopB (φ 32 ++ b) = true
  slp : ∀ b, stopB (φ 40 ++ b) = true
  srp : ∀ b, stopB (φ 41 ++ b) = true
/-- what the law makes of a byte -/
def wideB (c : UInt8) : List UInt8 := if c = 32 ∨ c = 40 ∨ c = 41 then [32, c, 9, 10] else [c]
/-! ### Numbers -/
theorem decDigits_big' {u : Nat} (h : ¬ u < 10) : Lib.decDigits u = Lib.decDigits (u / 10) ++ [UInt8.ofNat (48 + u % 10)] := by rw [Lib.decDigits, dif_neg h]
/-! ### Names and words -/
/-- the words of letters -/
def letterOp (k : Nat) : Bool := decide (k = 3) || (decide (8 ≤ k) && decide (k ≤ 10)) || (decide (17 ≤ k) && decide (k ≤ 26))
section
variable {φ : UInt8 → List UInt8} (hφ : Wide φ)
include hφ
end
end Go.Vc
