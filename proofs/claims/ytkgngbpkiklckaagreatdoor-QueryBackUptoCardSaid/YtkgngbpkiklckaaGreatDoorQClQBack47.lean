/- Query: QueryBack. -/
import Derived.Test.YtkgngbpkiklckaaGreatDoorQClQBack46
namespace Go.Vc
open Go Go.Proofs
set_option maxRecDepth 20000
variable {w : World}
theorem print_err {l : List QN} {c : Int} (h : printM l = .error c) : c ≠ 0 := by
  unfold printM at h
  split at h
  · cases h; decide
  · split at h
    · cases h; decide
    · split at h
      · cases h; decide
      · cases h
theorem bAt {c : UInt8} {k : Int} (k' : UInt8) (hk : (k'.toNat : Int) = k) : ((c.toNat : Int) = k) ↔ c = k' := by
  rw [← hk]
  constructor
  · intro h
    exact UInt8.toNat_inj.1 (by omega)
  · rintro rfl; rfl
theorem wide_len : ∀ l : List UInt8, (l.flatMap wideB).length ≤ 4 * l.length
  | [] => by simp
  | c :: r => by
    have ih := wide_len r
    rw [List.flatMap_cons, List.length_append, List.length_cons]
    have : (wideB c).length ≤ 4 := by unfold wideB; split <;> simp
    omega
set_option maxHeartbeats 12800000 in
theorem QueryBack_ret {x : AG} (hA : AscW w) (hP : PowQ w) (hx : x.Ok w) : Ret Tryz.prog 3 [.agg ⟨x.C⟩] w (fun v w' => v = .bool true ∧ Kp [] w w') := by
  refine enter Tryz.call3 Tryz.func3 rfl rfl rfl rfl ?_
  (repeat first|refine zA ?_|refine zg ?_)
  refine o_box rfl rfl rfl ?_
  intro b1 w1 e1 hu1
  have k1 : Kp [] w w1 := hu1.kp [] (.inr (by omega))
  have g1 : Blk w1 b1 x.C 30 := hu1.blk
  clear hu1
  (repeat first|refine zA ?_|refine zB ?_|refine zg ?_|refine zo rfl rfl trivial ?_|refine zn ?_)
  refine o_call (works_ret (hA.kp k1 (by simp)) (hP.kp k1 (by simp))) rfl rfl rfl ?_
  rintro v w2 ⟨rfl, k2⟩
  have k02 := k1.trans k2
  have g1 := k2.blk (by simp) g1
  (repeat first|refine zA ?_|refine zg ?_|refine zo rfl rfl trivial ?_|refine zn ?_|refine zk ?_|refine zf rfl ?_)
  refine o_loadA (vs := [.slice x.qad x.l.length x.qcap]) rfl (g1.sub 1 _ rfl) rfl rfl rfl rfl rfl rfl ?_
  refine o_call (lent_ret ((hx.kp k02).rows)) rfl rfl rfl ?_
  rintro v w3 ⟨lad, lcap, rfl, hlo, k3, _⟩
  have k03 := k02.trans k3
  have g1 := k3.blk (by simp) g1
  have hRl : Rows w3 lad lcap x.l := OwnS.rowsP (m := marksN 70) hlo hx.rows.len hx.rows.name hx.rows.num
  refine o_call (Print_ret (hA.kp k03 (by simp)) (hP.kp k03 (by simp)) hRl) rfl rfl rfl ?_
  rintro v w4 ⟨rfl, k4⟩
  have k04 := k03.trans k4
  have g1 := k4.blk (by simp) g1
  clear hRl hlo
  repeat first | refine o_pure1 rfl rfl rfl ?_ | refine zn ?_
  refine r_seq ?_
  refine r_cut (α := Unit) [1] (fun _ => [ptr b1]) (fun _ W => Kp [] w4 W) ?_ ?_
  · cases hp : printM x.l with
    | error c =>
      have hpv : printV x.l = ([], c) := by unfold printV; rw [hp]
      rw [hpv]
      (repeat first|refine zA ?_|refine zg ?_|refine zo rfl rfl trivial ?_)
      refine o_call (num30_ret _) rfl rfl rfl ?_
      rintro v w5 ⟨rfl, rfl⟩
      refine o_pureB false rfl (by simpa using print_err hp) rfl rfl ?_
      (repeat first|refine zn ?_|refine zk ?_|refine zf rfl ?_)
      exact ⟨(), rfl, Kp.refl _ _⟩
    | ok s =>
      have hpv : printV x.l = (s, 0) := by unfold printV; rw [hp]
      rw [hpv]
      obtain ⟨t, hps, htr, hsl⟩ := backA hx.rows.num hp
      (repeat first|refine zA ?_|refine zg ?_|refine zo rfl rfl trivial ?_)
      refine o_call (num30_ret _) rfl rfl rfl ?_
      rintro v w5 ⟨rfl, rfl⟩
      refine o_pureB true rfl (by simp) rfl rfl ?_
      (repeat first|refine zA ?_|refine zg ?_|refine zo rfl rfl trivial ?_|refine zn ?_|refine zt rfl ?_)
      refine o_call (Parse_ret (hA.kp k04 (by simp)) s (by omega)) rfl rfl rfl ?_
      rintro v w6 ⟨hv, k6⟩
      rw [hps] at hv
      obtain ⟨ad, cap, rfl, hO, _⟩ := hv
      have hRt := rows_of hps hsl hO
      have hsz : t.size = x.l.length := by rw [← htr, QT.rows_len]
      rw [htr] at hRt
      rw [hsz]
      have g1 := k6.blk (by simp) g1
      (repeat refine zo rfl rfl trivial ?_)
      refine o_alloc rfl rfl rfl rfl ?_
      intro b5 w7 e5 hu7
      refine o_alloc rfl rfl rfl rfl ?_
      intro b6 w8 e6 hu8
      have l5 := hu7.lt
      have n56 : b5 ≠ b6 := by omega
      refine o_storeA (b := b5) (cs := [.slice ad x.l.length cap]) rfl (hu8.kept n56 hu7.blk) (Nat.le_refl _) rfl (by simp [Value.oneCell']) rfl rfl rfl rfl ?_
      intro w9 hu9
      refine o_storeA (b := b6) (cs := [I 0, I 0]) rfl (hu9.kept n56.symm hu8.blk) (Nat.le_refl _) rfl (by simp [Value.oneCell']) rfl rfl rfl rfl ?_
      intro w10 hu10
      have g5 : Blk w10 b5 [.slice ad x.l.length cap] 24 := hu10.kept n56 hu9.blk
      have g6 : Blk w10 b6 [I 0, I 0] 38 := hu10.blk
      have k610 : Kp [] w6 w10 := ((((hu7.kp [] (.inr (by omega)))).trans (hu8.kp [] (.inr (by omega)))).since (hu9.kp [b5] (.inl (by simp))) (by simp; omega)).since (hu10.kp [b6] (.inl (by simp))) (by simp; omega)
      clear hu7 hu8 hu9 hu10
      have g1 := k610.blk (by simp) g1
      have hRt := hRt.kp k610 (by simp)
      have k010 := (k04.trans k6).trans k610
      (repeat first|refine zA ?_|refine zg ?_|refine zn ?_)
      refine o_loadA (vs := [.slice ad x.l.length cap]) rfl (fun j v hv => by rw [Nat.zero_add]; exact g5.cell hv) rfl rfl rfl rfl rfl rfl ?_
      refine o_call (Print_ret (hA.kp k010 (by simp)) (hP.kp k010 (by simp)) hRt) rfl rfl rfl ?_
      rw [hpv]
      rintro v w11 ⟨rfl, k11⟩
      have g1 := k11.blk (by simp) g1
      have g5 := k11.blk (by simp) g5
      have g6 := k11.blk (by simp) g6
      have hRt := hRt.kp k11 (by simp)
      have k011 := k010.trans k11
      (repeat first|refine zA ?_|refine zg ?_|refine zo rfl rfl trivial ?_|refine zn ?_)
      refine o_load rfl g6 (v := I 0) rfl rfl rfl rfl rfl ?_
      (repeat first|refine zo rfl rfl trivial ?_|refine zU rfl rfl rfl ?_)
      refine o_call (num30_ret _) rfl rfl rfl ?_
      rintro v w12 ⟨rfl, rfl⟩
      (repeat first|refine zo rfl rfl trivial ?_|refine zU rfl rfl rfl ?_)
      refine o_loadA (vs := [.slice ad x.l.length cap]) rfl (fun j v hv => by rw [Nat.zero_add]; exact g5.cell hv) rfl rfl rfl rfl rfl rfl ?_
      (repeat refine zo rfl rfl trivial ?_)
      refine o_loadA (vs := [.slice x.qad x.l.length x.qcap]) rfl (g1.sub 1 _ rfl) rfl rfl rfl rfl rfl rfl ?_
      refine o_call (Same30_ret hRt ((hx.kp k011).rows)) rfl rfl rfl ?_
      rw [decide_eq_true (rfl : x.l = x.l)]
      rintro v w13 ⟨rfl, k13⟩
      (repeat first|refine zo rfl rfl trivial ?_|refine zn ?_|refine zU rfl rfl rfl ?_)
      refine r_no rfl (by simp) ?_
      (repeat refine zk ?_)
      exact ⟨(), rfl, ((k6.trans k610).trans k11).trans k13⟩
  rintro _ e5 w5 k5
  have k05 := k04.trans k5
  have g1 := k5.blk (by simp) g1
  have htl := hx.txt
  (repeat first|refine zA ?_|refine zg ?_|refine zo rfl rfl trivial ?_)
  refine o_load rfl g1 (v := S x.txt) rfl rfl rfl rfl rfl ?_
  refine o_call (Parse_ret (hA.kp k05 (by simp)) x.txt (by omega)) rfl rfl rfl ?_
  rintro v w6 ⟨hv, k6⟩
  have k06 := k05.trans k6
  cases hp : parseM x.txt with
  | error ci =>
    obtain ⟨c, i⟩ := ci
    rw [hp] at hv
    have hv : v = .tuple #[.agg ⟨[.slice none 0 0]⟩, .agg ⟨[I c, I i]⟩] := hv
    subst hv
    have hc := parse_err hp
    (repeat refine zo rfl rfl trivial ?_)
    refine o_alloc rfl rfl rfl rfl ?_
    intro b9 w7 e7 hu7
    refine o_alloc rfl rfl rfl rfl ?_
    intro b10 w8 e8 hu8
    have l7 := hu7.lt
    have n910 : b9 ≠ b10 := by omega
    refine o_storeA (b := b9) (cs := [.slice none 0 0]) rfl (hu8.kept n910 hu7.blk) (Nat.le_refl _) rfl (by simp [Value.oneCell']) rfl rfl rfl rfl ?_
    intro w9 hu9
    refine o_storeA (b := b10) (cs := [I c, I i]) rfl (hu9.kept n910.symm hu8.blk) (Nat.le_refl _) rfl (by simp [Value.oneCell']) rfl rfl rfl rfl ?_
    intro w10 hu10
    have g9 : Blk w10 b9 [.slice none 0 0] 24 := hu10.kept n910 hu9.blk
    have g10 : Blk w10 b10 [I c, I i] 38 := hu10.blk
    have k610 : Kp [] w6 w10 := ((((hu7.kp [] (.inr (by omega)))).trans (hu8.kp [] (.inr (by omega)))).since (hu9.kp [b9] (.inl (by simp))) (by simp; omega)).since (hu10.kp [b10] (.inl (by simp))) (by simp; omega)
    clear hu7 hu8 hu9 hu10
    (repeat first|refine zA ?_|refine zB ?_|refine zg ?_|refine zo rfl rfl trivial ?_|refine zn ?_)
    refine o_load rfl g10 (v := I c) rfl rfl rfl rfl rfl ?_
    (repeat first|refine zo rfl rfl trivial ?_|refine zn ?_)
    refine r_ifn rfl (fun _ => ?_) (fun h => absurd h hc)
    (repeat first|refine zA ?_|refine zg ?_|refine zo rfl rfl trivial ?_)
    refine o_load rfl g9 (v := .slice none 0 0) rfl rfl rfl rfl rfl ?_
    (repeat first|refine zo rfl rfl trivial ?_|refine zn ?_|refine zr ?_)
    exact ⟨_, rfl, rfl, k06.trans k610⟩
  | ok t =>
  rw [hp] at hv
  obtain ⟨ad, cap, rfl, hO, _⟩ := hv
  have hRt := rows_of hp (parse_len hp) hO
  have hsz : t.size = t.rows.length := (QT.rows_len t).symm
  rw [hsz]
  (repeat refine zo rfl rfl trivial ?_)
  refine o_alloc rfl rfl rfl rfl ?_
  intro b9 w7 e7 hu7
  refine o_alloc rfl rfl rfl rfl ?_
  intro b10 w8 e8 hu8
  have l7 := hu7.lt
  have n910 : b9 ≠ b10 := by omega
  refine o_storeA (b := b9) (cs := [.slice ad t.rows.length cap]) rfl (hu8.kept n910 hu7.blk) (Nat.le_refl _) rfl (by simp [Value.oneCell']) rfl rfl rfl rfl ?_
  intro w9 hu9
  refine o_storeA (b := b10) (cs := [I 0, I 0]) rfl (hu9.kept n910.symm hu8.blk) (Nat.le_refl _) rfl (by simp [Value.oneCell']) rfl rfl rfl rfl ?_
  intro w10 hu10
  have g9 : Blk w10 b9 [.slice ad t.rows.length cap] 24 := hu10.kept n910 hu9.blk
  have g10 : Blk w10 b10 [I 0, I 0] 38 := hu10.blk
  have k610 : Kp [] w6 w10 := ((((hu7.kp [] (.inr (by omega)))).trans (hu8.kp [] (.inr (by omega)))).since (hu9.kp [b9] (.inl (by simp))) (by simp; omega)).since (hu10.kp [b10] (.inl (by simp))) (by simp; omega)
  clear hu7 hu8 hu9 hu10
  have hRt := hRt.kp k610 (by simp)
  have k010 := k06.trans k610
  (repeat first|refine zA ?_|refine zB ?_|refine zg ?_|refine zo rfl rfl trivial ?_|refine zn ?_)
  refine o_load rfl g10 (v := I 0) rfl rfl rfl rfl rfl ?_
  (repeat first|refine zA ?_|refine zg ?_|refine zo rfl rfl trivial ?_|refine zn ?_|refine zk ?_|refine zf rfl ?_)
  refine o_loadA (vs := [.slice ad t.rows.length cap]) rfl (fun j v hv => by rw [Nat.zero_add]; exact g9.cell hv) rfl rfl rfl rfl rfl rfl ?_
  refine o_call (Print_ret (hA.kp k010 (by simp)) (hP.kp k010 (by simp)) hRt) rfl rfl rfl ?_
  rintro v w11 ⟨rfl, k11⟩
  have g9 := k11.blk (by simp) g9
  have hRt := hRt.kp k11 (by simp)
  have k011 := k010.trans k11
  rcases backB hp with hpr | ⟨s, hpr, hps, hsl, hwide⟩
  · have hpv : printV t.rows = ([], 3) := by unfold printV; rw [hpr]
    rw [hpv]
    (repeat first|refine zA ?_|refine zB ?_|refine zg ?_|refine zo rfl rfl trivial ?_|refine zn ?_)
    refine o_call (num30_ret _) rfl rfl rfl ?_
    rintro v w12 ⟨rfl, rfl⟩
    (repeat first|refine zA ?_|refine zg ?_|refine zo rfl rfl trivial ?_|refine zn ?_|refine zt rfl ?_)
    refine o_call (num30_ret _) rfl rfl rfl ?_
    rintro v w13 ⟨rfl, rfl⟩
    (repeat first|refine zo rfl rfl trivial ?_|refine zn ?_|refine zr ?_|refine zT rfl rfl rfl ?_)
    exact ⟨_, rfl, rfl, k011⟩
  have hpv : printV t.rows = (s, 0) := by unfold printV; rw [hpr]
  rw [hpv]
  (repeat first|refine zA ?_|refine zB ?_|refine zg ?_|refine zo rfl rfl trivial ?_|refine zn ?_)
  refine o_call (num30_ret _) rfl rfl rfl ?_
  rintro v w12 ⟨rfl, rfl⟩
  (repeat first|refine zA ?_|refine zg ?_|refine zo rfl rfl trivial ?_|refine zn ?_|refine zk ?_|refine zf rfl ?_)
  refine o_call (Parse_ret (hA.kp k011 (by simp)) s (by omega)) rfl rfl rfl ?_
  rintro v w13 ⟨hv, k13⟩
  rw [hps] at hv
  obtain ⟨ad2, cap2, rfl, hO2, _⟩ := hv
  have hR2 := rows_of hps hsl hO2
  have g9 := k13.blk (by simp) g9
  have hRt := hRt.kp k13 (by simp)
  rw [hsz]
  (repeat refine zo rfl rfl trivial ?_)
  refine o_alloc rfl rfl rfl rfl ?_
  intro b13 w14 e14 hu14
  refine o_alloc rfl rfl rfl rfl ?_
  intro b14 w15 e15 hu15
  have l14 := hu14.lt
  have n1314 : b13 ≠ b14 := by omega
  refine o_storeA (b := b13) (cs := [.slice ad2 t.rows.length cap2]) rfl (hu15.kept n1314 hu14.blk) (Nat.le_refl _) rfl (by simp [Value.oneCell']) rfl rfl rfl rfl ?_
  intro w16 hu16
  refine o_storeA (b := b14) (cs := [I 0, I 0]) rfl (hu16.kept n1314.symm hu15.blk) (Nat.le_refl _) rfl (by simp [Value.oneCell']) rfl rfl rfl rfl ?_
  intro w17 hu17
  have g13 : Blk w17 b13 [.slice ad2 t.rows.length cap2] 24 := hu17.kept n1314 hu16.blk
  have g14 : Blk w17 b14 [I 0, I 0] 38 := hu17.blk
  have k1317 : Kp [] w13 w17 := ((((hu14.kp [] (.inr (by omega)))).trans (hu15.kp [] (.inr (by omega)))).since (hu16.kp [b13] (.inl (by simp))) (by simp; omega)).since (hu17.kp [b14] (.inl (by simp))) (by simp; omega)
  clear hu14 hu15 hu16 hu17
  have g9 := k1317.blk (by simp) g9
  have hRt := hRt.kp k1317 (by simp)
  have hR2 := hR2.kp k1317 (by simp)
  have k017 := (k011.trans k13).trans k1317
  (repeat first|refine zA ?_|refine zB ?_|refine zg ?_|refine zo rfl rfl trivial ?_|refine zn ?_)
  refine o_load rfl g14 (v := I 0) rfl rfl rfl rfl rfl ?_
  (repeat first|refine zo rfl rfl trivial ?_|refine zU rfl rfl rfl ?_)
  refine o_loadA (vs := [.slice ad t.rows.length cap]) rfl (fun j v hv => by rw [Nat.zero_add]; exact g9.cell hv) rfl rfl rfl rfl rfl rfl ?_
  refine o_loadA (vs := [.slice ad2 t.rows.length cap2]) rfl (fun j v hv => by rw [Nat.zero_add]; exact g13.cell hv) rfl rfl rfl rfl rfl rfl ?_
  refine o_call (Same30_ret hRt hR2) rfl rfl rfl ?_
  rw [decide_eq_true (rfl : t.rows = t.rows)]
  rintro v w18 ⟨rfl, k18⟩
  have g9 := k18.blk (by simp) g9
  have hRt := hRt.kp k18 (by simp)
  have k018 := k017.trans k18
  (repeat first|refine zA ?_|refine zB ?_|refine zg ?_|refine zo rfl rfl trivial ?_|refine zn ?_|refine zb ?_|refine zk ?_|refine zf rfl ?_)
  refine r_loop (α := Nat) [9, 11, 15, 16] (fun i => [ptr b9, S s, S ((s.take i).flatMap wideB), I i]) (fun i W => i ≤ s.length ∧ W = w18) (fun i => s.length - i) 0 rfl ⟨Nat.zero_le _, rfl⟩ ?_
  rintro i e W ⟨hi, rfl⟩
  (repeat first|refine zA ?_|refine zB ?_|refine zg ?_|refine zo rfl rfl trivial ?_|refine zn ?_)
  refine r_if rfl (fun hc => ?_) (fun hc => ?_)
  · have hi2 : i < s.length := by omega
    (repeat first|refine zA ?_|refine zC ?_|refine zg ?_|refine zo rfl rfl (by first|exact trivial|(simp only[AllP];omega)) ?_|refine zb ?_|refine zk ?_)
    obtain ⟨c, hcx⟩ : ∃ c, s[i]? = some c := ⟨_, List.getElem?_eq_getElem hi2⟩
    have hgd : s.getD ((i : Int)).toNat 0 = c := by rw [toNat_nat, List.getD_eq_getElem?_getD, hcx]; rfl
    rw [hgd]
    have ht1 : s.take (i + 1) = s.take i ++ [c] := by rw [List.take_add_one, hcx]; rfl
    have hd : List.drop ((i : Int)).toNat (List.take ((i : Int) + 1).toNat s) = [c] := by
      rw [toNat_nat, show ((i : Int) + 1).toNat = i + 1 by omega, ht1, List.drop_left' (by rw [List.length_take]; omega)]
    have hwl := wide_len (s.take i)
    rw [List.length_take] at hwl
    have hy : (c = 32 ∨ c = 40 ∨ c = 41) → (s.take (i + 1)).flatMap wideB = (s.take i).flatMap wideB ++ ([32] ++ [c] ++ [9, 10]) := fun h => by
      rw [ht1, List.flatMap_append]
      simp [wideB, h]
    have hn : ¬ (c = 32 ∨ c = 40 ∨ c = 41) → (s.take (i + 1)).flatMap wideB = (s.take i).flatMap wideB ++ [c] := fun h => by
      rw [ht1, List.flatMap_append]
      simp [wideB, h]
    have c1 := bAt (c := c) (k := 32) 32 rfl
    have c2 := bAt (c := c) (k := 40) 40 rfl
    have c3 := bAt (c := c) (k := 41) 41 rfl
    by_cases h1 : (c.toNat : Int) = 32
    · rw [decide_eq_true h1]
      (repeat first|refine zg ?_|refine zo rfl rfl (by first|exact trivial|(simp only[AllP];omega)|(simp only[AllP,cC,cD,cE,cF,cG];omega)) ?_|refine zn ?_|refine zT rfl rfl rfl ?_|refine zt rfl ?_)
      rw [hd]
      exact ⟨i + 1, by rw [hy (.inl (c1.1 h1))]; rfl, ⟨by omega, rfl⟩, by omega⟩
    rw [decide_eq_false h1]
    (repeat first|refine zo rfl rfl (by first|exact trivial|(simp only[AllP];omega)) ?_|refine zU rfl rfl rfl ?_)
    rw [hgd]
    by_cases h2 : (c.toNat : Int) = 40
    · rw [decide_eq_true h2]
      (repeat first|refine zg ?_|refine zo rfl rfl (by first|exact trivial|(simp only[AllP];omega)|(simp only[AllP,cC,cD,cE,cF,cG];omega)) ?_|refine zn ?_|refine zT rfl rfl rfl ?_|refine zt rfl ?_)
      rw [hd]
      exact ⟨i + 1, by rw [hy (.inr (.inl (c2.1 h2)))]; rfl, ⟨by omega, rfl⟩, by omega⟩
    rw [decide_eq_false h2]
    (repeat first|refine zo rfl rfl (by first|exact trivial|(simp only[AllP];omega)) ?_|refine zn ?_|refine zU rfl rfl rfl ?_)
    rw [hgd]
    by_cases h3 : (c.toNat : Int) = 41
    · refine r_yes rfl (decide_eq_true h3) ?_
      (repeat first|refine zg ?_|refine zo rfl rfl (by first|exact trivial|(simp only[AllP];omega)|(simp only[AllP,cC,cD,cE,cF,cG];omega)) ?_|refine zn ?_)
      rw [hd]
      exact ⟨i + 1, by rw [hy (.inr (.inr (c3.1 h3)))]; rfl, ⟨by omega, rfl⟩, by omega⟩
    · refine r_no rfl (decide_eq_false h3) ?_
      (repeat first|refine zg ?_|refine zo rfl rfl (by first|exact trivial|(simp only[AllP];omega)|(simp only[AllP,cC,cD,cE,cF,cG];omega)) ?_|refine zn ?_)
      rw [hd]
      exact ⟨i + 1, by rw [hn (fun h => h.elim (fun h => h1 (c1.2 h)) fun h => h.elim (fun h => h2 (c2.2 h)) fun h => h3 (c3.2 h))]; rfl, ⟨by omega, rfl⟩, by omega⟩
  · obtain rfl : i = s.length := by omega
    rw [List.take_length]
    have hwl := wide_len s
    (repeat first|refine zA ?_|refine zB ?_|refine zg ?_|refine zo rfl rfl trivial ?_|refine zn ?_|refine ze rfl ?_)
    refine r_if rfl (fun hc2 => ?_) (fun hc2 => ?_)
    · (repeat first|refine zA ?_|refine zg ?_|refine zo rfl rfl trivial ?_|refine zn ?_|refine zr ?_)
      exact ⟨_, rfl, rfl, k018⟩
    have hps2 := hwide (by omega)
    (repeat first|refine zA ?_|refine zg ?_|refine zo rfl rfl trivial ?_|refine zk ?_)
    refine o_call (Parse_ret (hA.kp k018 (by simp)) (s.flatMap wideB) (by omega)) rfl rfl rfl ?_
    rintro v w19 ⟨hv, k19⟩
    rw [hps2] at hv
    obtain ⟨ad3, cap3, rfl, hO3, _⟩ := hv
    have hR3 := rows_of hps2 (by omega) hO3
    have g9 := k19.blk (by simp) g9
    have hRt := hRt.kp k19 (by simp)
    rw [hsz]
    (repeat refine zo rfl rfl trivial ?_)
    refine o_alloc rfl rfl rfl rfl ?_
    intro b17 w20 e20 hu20
    refine o_alloc rfl rfl rfl rfl ?_
    intro b18 w21 e21 hu21
    have l20 := hu20.lt
    have n1718 : b17 ≠ b18 := by omega
    refine o_storeA (b := b17) (cs := [.slice ad3 t.rows.length cap3]) rfl (hu21.kept n1718 hu20.blk) (Nat.le_refl _) rfl (by simp [Value.oneCell']) rfl rfl rfl rfl ?_
    intro w22 hu22
    refine o_storeA (b := b18) (cs := [I 0, I 0]) rfl (hu22.kept n1718.symm hu21.blk) (Nat.le_refl _) rfl (by simp [Value.oneCell']) rfl rfl rfl rfl ?_
    intro w23 hu23
    have g17 : Blk w23 b17 [.slice ad3 t.rows.length cap3] 24 := hu23.kept n1718 hu22.blk
    have g18 : Blk w23 b18 [I 0, I 0] 38 := hu23.blk
    have k1923 : Kp [] w19 w23 := ((((hu20.kp [] (.inr (by omega)))).trans (hu21.kp [] (.inr (by omega)))).since (hu22.kp [b17] (.inl (by simp))) (by simp; omega)).since (hu23.kp [b18] (.inl (by simp))) (by simp; omega)
    clear hu20 hu21 hu22 hu23
    have g9 := k1923.blk (by simp) g9
    have hRt := hRt.kp k1923 (by simp)
    have hR3 := hR3.kp k1923 (by simp)
    (repeat first|refine zA ?_|refine zg ?_|refine zo rfl rfl trivial ?_|refine zn ?_)
    refine o_load rfl g18 (v := I 0) rfl rfl rfl rfl rfl ?_
    (repeat first|refine zo rfl rfl trivial ?_|refine zT rfl rfl rfl ?_)
    refine o_loadA (vs := [.slice ad3 t.rows.length cap3]) rfl (fun j v hv => by rw [Nat.zero_add]; exact g17.cell hv) rfl rfl rfl rfl rfl rfl ?_
    refine o_loadA (vs := [.slice ad t.rows.length cap]) rfl (fun j v hv => by rw [Nat.zero_add]; exact g9.cell hv) rfl rfl rfl rfl rfl rfl ?_
    refine o_call (Same30_ret hR3 hRt) rfl rfl rfl ?_
    rw [decide_eq_true (rfl : t.rows = t.rows)]
    rintro v w24 ⟨rfl, k24⟩
    (repeat first|refine zo rfl rfl trivial ?_|refine zn ?_|refine zr ?_)
    exact ⟨_, rfl, rfl, ((k018.trans k19).trans k1923).trans k24⟩
theorem queryBack_walk {x : AG} {u : Nat} (hA : AscW w) (hP : PowQ w) (hx : ∀ B, u ≤ B → B ≤ 1048576 → AG.Ok w x) (hu : u ≤ 1048576) : Calls Tryz.prog 3 #[.agg ⟨x.C⟩] w (fun e w' => e = .returned (.bool true) ∧ RowKit.Below w.heap.size w w') := (QueryBack_ret hA hP (hx 1048576 hu (Nat.le_refl _))).calls
end Go.Vc
