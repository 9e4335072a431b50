/- Query: QueryRenames. -/
import Derived.Test.YtkgngbpkiklckaaGreatDoorQClQRenames46
namespace Go.Vc
open Go Go.Proofs
set_option maxRecDepth 20000
variable {w : World}
theorem free_of {l : List QN} {c : List UInt8} (hn : ∀ x ∈ l, x.num ≤ 9223372036854775807) (hh : hasM l c = false) : ∀ t, wholeM l = some t → freeT c t := by
  intro t ht
  obtain ⟨_, h2, _⟩ := whole_good hn ht
  exact freeT_rows fun x hx => hasM_no hh x (by rw [h2]; exact hx)
theorem ask_rn {l : List QN} {a c : List UInt8} {s : Shp} {E : List Ev} {fuel : Int} (hn : ∀ x ∈ l, x.num ≤ 9223372036854775807) (ha : qName a = true) (hc : qName c = true) (hh : hasM l c = false) : askM (l.map (rnN a c)) s E fuel = askM l s E fuel := by
  unfold askM
  rw [looked_rn ha hc (free_of hn hh)]
  cases hl : lookedM l with
  | error e => rfl
  | ok t =>
    have ht : wholeM l = some t := by
      unfold lookedM at hl
      split at hl
      · cases hl
      · next t' hw =>
        split at hl
        · cases hl
        · split at hl
          · cases hl
          · cases hl; exact hw
    dsimp only
    rw [evq_rn _ t (fun _ => 0) (fun _ => 0) (free_of hn hh t ht) (fun _ _ => rfl), rnT_op]
/-- what Rename hands out, as a row that is lent -/
theorem rows_rn {l : List QN} {a c : List UInt8} {ad ad' : Option Addr} {cap cap' : Nat} {w' : World} (hR : Rows w ad cap l) (hc : c.length ≤ 1048576) (hO : OwnS w' 81 4 ad' (l.map (rnN a c)).length cap' ((l.map (rnN a c)).flatMap qC)) : Rows w' ad' cap' (l.map (rnN a c)) := by
  have hcap : cap' ≤ maxLen := by
    obtain ⟨_, h⟩ := hO
    cases ad' with
    | none => obtain ⟨_, h⟩ := h; rw [h]; exact Nat.zero_le _
    | some a => obtain ⟨_, _, _, h, _⟩ := h; exact h
  simp only [maxLen] at hcap
  refine ⟨hO.readN, hO.le_cap, hcap, by rw [List.length_map]; exact hR.len, fun x hx => ?_, fun x hx => ?_⟩
  · obtain ⟨y, hy, rfl⟩ := List.mem_map.1 hx
    rw [rnN_eq]
    dsimp only
    unfold rn
    split
    · omega
    · exact hR.name y hy
  · obtain ⟨y, hy, rfl⟩ := List.mem_map.1 hx
    rw [rnN_eq]
    exact hR.num y hy
theorem ren_ok {l l' : List QN} {a c : List UInt8} (h : renM l a c = .ok l') : l' = l.map (rnN a c) ∧ qName a = true ∧ qName c = true ∧ ∃ t, wholeM l = some t := by
  unfold renM at h
  split at h
  · cases h
  · next t ht =>
    split at h
    · cases h
    · next hq =>
      cases h
      simp only [not_or, Bool.not_eq_false] at hq
      exact ⟨rfl, hq.1, hq.2, t, ht⟩
theorem ren_err {l : List QN} {a c : List UInt8} {e : Int} (h : renM l a c = .error e) : e ≠ 0 := by
  unfold renM at h
  split at h
  · cases h; decide
  · split at h
    · cases h; decide
    · cases h
theorem ren_back {l : List QN} {a c : List UInt8} (ha : qName a = true) (hc : qName c = true) (ht : ∃ t, wholeM l = some t) (hh : hasM l c = false) : renM (l.map (rnN a c)) c a = .ok l := by
  obtain ⟨t, ht⟩ := ht
  have hw := whole_rn (a := a) (c := c) ha hc l
  rw [ht] at hw
  unfold renM
  rw [hw]
  show (if qName c = false ∨ qName a = false then _ else _) = _
  rw [if_neg (by rw [ha, hc]; simp), renN_rn, map_back (hasM_no hh)]
set_option maxHeartbeats 12800000 in
theorem QueryRenames_ret {x : AG} (hA : AscW w) (hP : PowQ w) (hx : x.Ok w) : Ret Tryz.prog 8 [.agg ⟨x.C⟩] w (fun v w' => v = .bool true ∧ Kp [] w w') := by
  refine enter Tryz.call8 Tryz.func8 rfl rfl rfl rfl ?_
  (repeat first|refine zA ?_|refine zg ?_)
  refine o_box rfl rfl rfl ?_
  intro b1 w1 e1 hu1
  have k1 : Kp [] w w1 := hu1.kp [] (.inr (by omega))
  have g1 : Blk w1 b1 x.C 30 := hu1.blk
  clear hu1
  (repeat first|refine zA ?_|refine zB ?_|refine zg ?_|refine zo rfl rfl trivial ?_|refine zn ?_)
  refine o_call (works_ret (hA.kp k1 (by simp)) (hP.kp k1 (by simp))) rfl rfl rfl ?_
  rintro v w2 ⟨rfl, k2⟩
  have k02 := k1.trans k2
  have g1 := k2.blk (by simp) g1
  (repeat first|refine zo rfl rfl trivial ?_|refine zU rfl rfl rfl ?_)
  refine o_loadA (vs := x.C) rfl (fun j v hv => by rw [Nat.zero_add]; exact g1.cell hv) rfl rfl rfl rfl rfl rfl ?_
  refine o_call few_ret rfl rfl rfl ?_
  rintro v w3 ⟨rfl, k3⟩
  have k03 := k02.trans k3
  have g1 := k3.blk (by simp) g1
  generalize (decide (x.fuel ≤ 300000) || decide (67108864 < x.fuel)) = fw
  cases fw with
  | false =>
    (repeat first|refine zA ?_|refine zg ?_|refine zo rfl rfl trivial ?_|refine zn ?_|refine zT rfl rfl rfl ?_|refine zt rfl ?_)
    refine o_call (works_ret (hA.kp k03 (by simp)) (hP.kp k03 (by simp))) rfl rfl rfl ?_
    rintro v w4 ⟨rfl, k4⟩
    (repeat first|refine zo rfl rfl trivial ?_|refine zn ?_|refine zr ?_)
    exact ⟨_, rfl, rfl, k03.trans k4⟩
  | true =>
  (repeat first|refine zo rfl rfl trivial ?_|refine zU rfl rfl rfl ?_)
  refine o_loadA (vs := [.slice x.qad x.l.length x.qcap]) rfl (g1.sub 1 _ rfl) rfl rfl rfl rfl rfl rfl ?_
  (repeat refine zo rfl rfl trivial ?_)
  refine o_load rfl g1 (v := S x.tt) rfl rfl rfl rfl rfl ?_
  refine o_call (has_ret ((hx.kp k03).rows) x.tt) rfl rfl rfl ?_
  rintro v w4 ⟨rfl, k4⟩
  have k04 := k03.trans k4
  have g1 := k4.blk (by simp) g1
  cases hh : hasM x.l x.tt with
  | true =>
    (repeat first|refine zA ?_|refine zg ?_|refine zo rfl rfl trivial ?_|refine zn ?_|refine zt rfl ?_)
    refine o_call (works_ret (hA.kp k04 (by simp)) (hP.kp k04 (by simp))) rfl rfl rfl ?_
    rintro v w5 ⟨rfl, k5⟩
    (repeat first|refine zo rfl rfl trivial ?_|refine zn ?_|refine zr ?_)
    exact ⟨_, rfl, rfl, k04.trans k5⟩
  | false =>
  (repeat first|refine zA ?_|refine zg ?_|refine zo rfl rfl trivial ?_|refine zn ?_|refine zk ?_|refine zf rfl ?_)
  refine o_loadA (vs := [.slice x.qad x.l.length x.qcap]) rfl (g1.sub 1 _ rfl) rfl rfl rfl rfl rfl rfl ?_
  (repeat refine zo rfl rfl trivial ?_)
  refine o_load rfl g1 (v := S x.fr) rfl rfl rfl rfl rfl ?_
  (repeat refine zo rfl rfl trivial ?_)
  refine o_load rfl g1 (v := S x.tt) rfl rfl rfl rfl rfl ?_
  have hfr := hx.fr
  have htt := hx.tt
  refine o_call (Rename_ret (hA.kp k04 (by simp)) ((hx.kp k04).rows) x.fr x.tt (by omega) (by omega)) rfl rfl rfl ?_
  rintro v w5 ⟨hv, k5⟩
  have k05 := k04.trans k5
  have g1 := k5.blk (by simp) g1
  cases hr : renM x.l x.fr x.tt with
  | error e =>
    rw [hr] at hv
    have hv : v = .tuple #[qV none 0 0, I e] := hv
    subst hv
    have he := ren_err hr
    (repeat refine zo rfl rfl trivial ?_)
    refine o_alloc rfl rfl rfl rfl ?_
    intro b3 w6 e6 hu6
    refine o_storeA (b := b3) (cs := [.slice none 0 0]) rfl hu6.blk (Nat.le_refl _) rfl (by simp [Value.oneCell']) rfl rfl rfl rfl ?_
    intro w7 hu7
    have k57 : Kp [] w5 w7 := (hu6.kp [] (.inr (by omega))).since (hu7.kp [b3] (.inl (by simp))) (by simp; omega)
    have g3 : Blk w7 b3 [.slice none 0 0] 24 := hu7.blk
    clear hu6 hu7
    (repeat first|refine zA ?_|refine zB ?_|refine zg ?_|refine zo rfl rfl trivial ?_|refine zn ?_)
    refine o_call (num30_ret _) rfl rfl rfl ?_
    rintro v w8 ⟨rfl, rfl⟩
    refine o_pureB true rfl (by simp [he]) rfl rfl ?_
    (repeat first|refine zA ?_|refine zg ?_|refine zo rfl rfl trivial ?_|refine zn ?_|refine zt rfl ?_)
    refine o_load rfl g3 (v := .slice none 0 0) rfl rfl rfl rfl rfl ?_
    (repeat first|refine zo rfl rfl trivial ?_|refine zn ?_|refine zr ?_)
    exact ⟨_, rfl, rfl, k05.trans k57⟩
  | ok l' =>
  obtain ⟨rfl, qa, qc, ht⟩ := ren_ok hr
  rw [hr] at hv
  obtain ⟨rad, rcap, rfl, hO, _⟩ := hv
  have hRr := rows_rn hx.rows htt hO
  have hask := ask_rn (s := x.s) (E := x.E) (fuel := x.fuel) hx.rows.num qa qc hh
  have hback := ren_back qa qc ht hh
  generalize hl' : x.l.map (rnN x.fr x.tt) = l' at hRr hask hback hO ⊢
  (repeat refine zo rfl rfl trivial ?_)
  refine o_alloc rfl rfl rfl rfl ?_
  intro b3 w6 e6 hu6
  have z1 : b1 ≠ b3 := by have := g1.lt; omega
  have g1 := (hu6.kp [] (.inr (by omega))).blk (by simp) g1
  refine o_storeA (b := b3) (cs := [.slice rad l'.length rcap]) rfl hu6.blk (Nat.le_refl _) rfl (by simp [Value.oneCell']) rfl rfl rfl rfl ?_
  intro w7 hu7
  have k57 : Kp [] w5 w7 := (hu6.kp [] (.inr (by omega))).since (hu7.kp [b3] (.inl (by simp))) (by simp; omega)
  have g3 : Blk w7 b3 [.slice rad l'.length rcap] 24 := hu7.blk
  have g1 := hu7.kept z1 g1
  have k07 := k05.trans k57
  have hRr := hRr.kp k57 (by simp)
  clear hu6 hu7
  (repeat first|refine zA ?_|refine zB ?_|refine zg ?_|refine zo rfl rfl trivial ?_|refine zn ?_)
  refine o_call (num30_ret _) rfl rfl rfl ?_
  rintro v w8 ⟨rfl, rfl⟩
  refine o_pureB false rfl (by simp) rfl rfl ?_
  (repeat first|refine zA ?_|refine zg ?_|refine zo rfl rfl trivial ?_|refine zn ?_|refine zk ?_|refine zf rfl ?_)
  -- asked
  refine o_loadA (vs := [.slice x.qad x.l.length x.qcap]) rfl (g1.sub 1 _ rfl) rfl rfl rfl rfl rfl rfl ?_
  (repeat refine zo rfl rfl trivial ?_)
  refine o_loadA (vs := [I x.s.th, I x.s.va, I x.s.vo, I x.s.lo, .slice x.pad x.s.pa.length x.pcap]) rfl (g1.sub 2 _ rfl) rfl rfl rfl rfl rfl rfl ?_
  (repeat refine zo rfl rfl trivial ?_)
  refine o_load rfl g1 (v := .slice x.ead x.E.length x.ecap) rfl rfl rfl rfl rfl ?_
  (repeat refine zo rfl rfl trivial ?_)
  refine o_load rfl g1 (v := I x.fuel) rfl rfl rfl rfl rfl ?_
  refine o_call (AskX_ret (hA.kp k07 (by simp)) (hx.kp k07) x.fuel) rfl rfl rfl ?_
  rintro v w9 ⟨rfl, k9⟩
  have k09 := k07.trans k9
  have g1 := k9.blk (by simp) g1
  have g3 := k9.blk (by simp) g3
  have hRr := hRr.kp k9 (by simp)
  generalize askM x.l x.s x.E x.fuel = r at hask ⊢
  obtain ⟨r, er⟩ := r
  dsimp only at hask ⊢
  (repeat refine zo rfl rfl trivial ?_)
  refine o_alloc rfl rfl rfl rfl ?_
  intro b5 w10 e10 hu10
  have z1 : b1 ≠ b5 := by have := g1.lt; omega
  have z3 : b3 ≠ b5 := by have := g3.lt; omega
  have g1 := (hu10.kp [] (.inr (by omega))).blk (by simp) g1
  have g3 := (hu10.kp [] (.inr (by omega))).blk (by simp) g3
  refine o_storeA (b := b5) (cs := repC r) rfl hu10.blk (Nat.le_refl _) rfl (by simp [Value.oneCell', repC]) rfl rfl rfl rfl ?_
  intro w11 hu11
  have k911 : Kp [] w9 w11 := (hu10.kp [] (.inr (by omega))).since (hu11.kp [b5] (.inl (by simp))) (by simp; omega)
  have g5 : Blk w11 b5 (repC r) 45 := hu11.blk
  have g1 := hu11.kept z1 g1
  have g3 := hu11.kept z3 g3
  have k011 := k09.trans k911
  have hRr := hRr.kp k911 (by simp)
  clear hu10 hu11
  -- asked of the other one
  (repeat first|refine zA ?_|refine zg ?_|refine zo rfl rfl trivial ?_|refine zn ?_)
  refine o_loadA (vs := [.slice rad l'.length rcap]) rfl (fun j v hv => by rw [Nat.zero_add]; exact g3.cell hv) rfl rfl rfl rfl rfl rfl ?_
  (repeat refine zo rfl rfl trivial ?_)
  refine o_loadA (vs := [I x.s.th, I x.s.va, I x.s.vo, I x.s.lo, .slice x.pad x.s.pa.length x.pcap]) rfl (g1.sub 2 _ rfl) rfl rfl rfl rfl rfl rfl ?_
  (repeat refine zo rfl rfl trivial ?_)
  refine o_load rfl g1 (v := .slice x.ead x.E.length x.ecap) rfl rfl rfl rfl rfl ?_
  (repeat refine zo rfl rfl trivial ?_)
  refine o_load rfl g1 (v := I x.fuel) rfl rfl rfl rfl rfl ?_
  have hx11 := hx.kp k011
  refine o_call (Ask_ret (s := x.s) (pcap := x.pcap) (ecap := x.ecap) (fuel := x.fuel) (hA.kp k011 (by simp)) hRr hx11.pa hx11.pal hx11.ev hx11.evl) rfl rfl rfl ?_
  rw [hask]
  rintro v w12 ⟨rfl, k12⟩
  have k012 := k011.trans k12
  have g1 := k12.blk (by simp) g1
  have g3 := k12.blk (by simp) g3
  have g5 := k12.blk (by simp) g5
  have hRr := hRr.kp k12 (by simp)
  (repeat refine zo rfl rfl trivial ?_)
  refine o_alloc rfl rfl rfl rfl ?_
  intro b7 w13 e13 hu13
  have z1 : b1 ≠ b7 := by have := g1.lt; omega
  have z3 : b3 ≠ b7 := by have := g3.lt; omega
  have z5 : b5 ≠ b7 := by have := g5.lt; omega
  have g1 := (hu13.kp [] (.inr (by omega))).blk (by simp) g1
  have g3 := (hu13.kp [] (.inr (by omega))).blk (by simp) g3
  have g5 := (hu13.kp [] (.inr (by omega))).blk (by simp) g5
  refine o_storeA (b := b7) (cs := repC r) rfl hu13.blk (Nat.le_refl _) rfl (by simp [Value.oneCell', repC]) rfl rfl rfl rfl ?_
  intro w14 hu14
  have k1214 : Kp [] w12 w14 := (hu13.kp [] (.inr (by omega))).since (hu14.kp [b7] (.inl (by simp))) (by simp; omega)
  have g7 : Blk w14 b7 (repC r) 45 := hu14.blk
  have g1 := hu14.kept z1 g1
  have g3 := hu14.kept z3 g3
  have g5 := hu14.kept z5 g5
  have k014 := k012.trans k1214
  have hRr := hRr.kp k1214 (by simp)
  clear hu13 hu14
  -- and back
  (repeat first|refine zA ?_|refine zg ?_|refine zo rfl rfl trivial ?_|refine zn ?_)
  refine o_loadA (vs := [.slice rad l'.length rcap]) rfl (fun j v hv => by rw [Nat.zero_add]; exact g3.cell hv) rfl rfl rfl rfl rfl rfl ?_
  (repeat refine zo rfl rfl trivial ?_)
  refine o_load rfl g1 (v := S x.tt) rfl rfl rfl rfl rfl ?_
  (repeat refine zo rfl rfl trivial ?_)
  refine o_load rfl g1 (v := S x.fr) rfl rfl rfl rfl rfl ?_
  refine o_call (Rename_ret (hA.kp k014 (by simp)) hRr x.tt x.fr (by omega) (by omega)) rfl rfl rfl ?_
  rw [hback]
  rintro v w15 ⟨⟨qad, qcap, rfl, hOq, _⟩, k15⟩
  have k015 := k014.trans k15
  have g1 := k15.blk (by simp) g1
  have g3 := k15.blk (by simp) g3
  have g5 := k15.blk (by simp) g5
  have g7 := k15.blk (by simp) g7
  have hRr := hRr.kp k15 (by simp)
  have hRq : Rows w15 qad qcap x.l := by
    have h := rows_rn (l := l') (a := x.tt) (c := x.fr) (ad' := qad) (cap' := qcap) (w' := w15) hRr hfr
    rw [← hl', map_back (hasM_no hh)] at h
    exact h hOq
  (repeat refine zo rfl rfl trivial ?_)
  refine o_alloc rfl rfl rfl rfl ?_
  intro b9 w16 e16 hu16
  have z1 : b1 ≠ b9 := by have := g1.lt; omega
  have z3 : b3 ≠ b9 := by have := g3.lt; omega
  have z5 : b5 ≠ b9 := by have := g5.lt; omega
  have z7 : b7 ≠ b9 := by have := g7.lt; omega
  have g1 := (hu16.kp [] (.inr (by omega))).blk (by simp) g1
  have g3 := (hu16.kp [] (.inr (by omega))).blk (by simp) g3
  have g5 := (hu16.kp [] (.inr (by omega))).blk (by simp) g5
  have g7 := (hu16.kp [] (.inr (by omega))).blk (by simp) g7
  refine o_storeA (b := b9) (cs := [.slice qad x.l.length qcap]) rfl hu16.blk (Nat.le_refl _) rfl (by simp [Value.oneCell']) rfl rfl rfl rfl ?_
  intro w17 hu17
  have k1517 : Kp [] w15 w17 := (hu16.kp [] (.inr (by omega))).since (hu17.kp [b9] (.inl (by simp))) (by simp; omega)
  have g9 : Blk w17 b9 [.slice qad x.l.length qcap] 24 := hu17.blk
  have g1 := hu17.kept z1 g1
  have g3 := hu17.kept z3 g3
  have g5 := hu17.kept z5 g5
  have g7 := hu17.kept z7 g7
  have k017 := k015.trans k1517
  have hRr := hRr.kp k1517 (by simp)
  have hRq := hRq.kp k1517 (by simp)
  have hx17 := hx.kp k017
  clear hu16 hu17
  have eqr : eqMix (repC r) (repC r) = true := by rw [eqMix_rep]; simp
  (repeat first|refine zA ?_|refine zg ?_|refine zo rfl rfl trivial ?_|refine zn ?_)
  rw [show decide (er = er) = true from decide_eq_true rfl]
  (repeat refine zT rfl rfl rfl ?_)
  refine o_loadA (vs := repC r) rfl (fun j v hv => by rw [Nat.zero_add]; exact g5.cell hv) rfl rfl rfl rfl rfl rfl ?_
  refine o_loadA (vs := repC r) rfl (fun j v hv => by rw [Nat.zero_add]; exact g7.cell hv) rfl rfl rfl rfl rfl rfl ?_
  refine o_eqX (repC r) (repC r) rfl rfl rfl (by kernel_rfl) (by kernel_rfl) rfl rfl rfl rfl ?_
  rw [eqr]
  (repeat first|refine zo rfl rfl trivial ?_|refine zT rfl rfl rfl ?_)
  refine o_call (num30_ret _) rfl rfl rfl ?_
  rintro v w18 ⟨rfl, rfl⟩
  (repeat first|refine zo rfl rfl trivial ?_|refine zT rfl rfl rfl ?_)
  refine o_loadA (vs := [.slice qad x.l.length qcap]) rfl (fun j v hv => by rw [Nat.zero_add]; exact g9.cell hv) rfl rfl rfl rfl rfl rfl ?_
  (repeat refine zo rfl rfl trivial ?_)
  refine o_loadA (vs := [.slice x.qad x.l.length x.qcap]) rfl (g1.sub 1 _ rfl) rfl rfl rfl rfl rfl rfl ?_
  refine o_call (Same30_ret hRq hx17.rows) rfl rfl rfl ?_
  rw [decide_eq_true (rfl : x.l = x.l)]
  rintro v w19 ⟨rfl, k19⟩
  have g1 := k19.blk (by simp) g1
  have g3 := k19.blk (by simp) g3
  have hRr := hRr.kp k19 (by simp)
  have k019 := k017.trans k19
  (repeat first|refine zo rfl rfl trivial ?_|refine zT rfl rfl rfl ?_)
  refine o_load rfl g1 (v := S x.fr) rfl rfl rfl rfl rfl ?_
  (repeat refine zo rfl rfl trivial ?_)
  refine o_load rfl g1 (v := S x.tt) rfl rfl rfl rfl rfl ?_
  by_cases hft : x.fr = x.tt
  · refine o_pureB true rfl (decide_eq_true hft) rfl rfl ?_
    (repeat first|refine zo rfl rfl trivial ?_|refine zn ?_|refine zr ?_|refine zT rfl rfl rfl ?_)
    exact ⟨_, rfl, rfl, k019⟩
  · refine o_pureB false rfl (decide_eq_false hft) rfl rfl ?_
    (repeat first|refine zo rfl rfl trivial ?_|refine zU rfl rfl rfl ?_)
    refine o_loadA (vs := [.slice rad l'.length rcap]) rfl (fun j v hv => by rw [Nat.zero_add]; exact g3.cell hv) rfl rfl rfl rfl rfl rfl ?_
    (repeat refine zo rfl rfl trivial ?_)
    refine o_load rfl g1 (v := S x.fr) rfl rfl rfl rfl rfl ?_
    refine o_call (has_ret hRr x.fr) rfl rfl rfl ?_
    rw [← hl', hasM_gone hft]
    rintro v w20 ⟨rfl, k20⟩
    (repeat first|refine zo rfl rfl trivial ?_|refine zn ?_|refine zr ?_)
    exact ⟨_, rfl, rfl, k019.trans k20⟩
theorem queryRenames_walk {x : AG} {u : Nat} (hA : AscW w) (hP : PowQ w) (hx : ∀ B, u ≤ B → B ≤ 1048576 → AG.Ok w x) (hu : u ≤ 1048576) : Calls Tryz.prog 8 #[.agg ⟨x.C⟩] w (fun e w' => e = .returned (.bool true) ∧ RowKit.Below w.heap.size w w') := (QueryRenames_ret hA hP (hx 1048576 hu (Nat.le_refl _))).calls
end Go.Vc
