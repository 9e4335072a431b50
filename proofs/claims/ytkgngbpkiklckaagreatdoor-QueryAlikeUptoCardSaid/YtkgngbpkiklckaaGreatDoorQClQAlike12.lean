/- Query: one token on. -/
import Derived.Test.YtkgngbpkiklckaaGreatDoorQClQAlike11
import Derived.Test.YtkgngbpkiklckaaGreatDoorQClQAlike8
namespace Go.Vc
open Go Go.Proofs
set_option maxRecDepth 10000
variable {w : World} {p : Nat} {txt : List UInt8} {i : Nat} {k : Tok}
/-- a parser that stands at a stream of tokens -/
def PAt (w : World) (p : Nat) (txt : List UInt8) : TS → Prop
  | .tok t r => PB w p txt (t.at_ + t.text.length) t ∧ t.at_ + t.text.length ≤ txt.length ∧ r = lex txt (t.at_ + t.text.length) ∧ 1 ≤ t.text.length
  | .stop j => j = txt.length ∧ PB w p txt j ⟨[], -1, j⟩
  | .bad _ => False
theorem blank_iff (c : UInt8) : blankB c = (decide ((c.toNat : Int) = 32) || decide ((c.toNat : Int) = 9) || decide ((c.toNat : Int) = 10) || decide ((c.toNat : Int) = 13)) := by
  have e : ∀ d : UInt8, decide (c = d) = decide ((c.toNat : Int) = d.toNat) := fun d => by rw [decide_eq_decide, ← UInt8.toNat_inj]; omega
  unfold blankB
  rw [e, e, e, e]; rfl
theorem tw_lt {f : UInt8 → Bool} : ∀ {l : List UInt8} {j : Nat}, j ≤ (l.takeWhile f).length → (j < (l.takeWhile f).length ↔ j < l.length ∧ f (l.getD j 0) = true)
  | [], j, h => by simp at h ⊢
  | c :: r, 0, h => by
    simp only [List.takeWhile_cons]
    cases hc : f c <;> simp [hc]
  | c :: r, j + 1, h => by
    simp only [List.takeWhile_cons] at h ⊢
    cases hc : f c with
    | false => rw [hc] at h; simp at h
    | true =>
      rw [hc] at h
      simp only [if_true, List.length_cons] at h ⊢
      have := tw_lt (f := f) (l := r) (j := j) (by omega)
      simp only [List.getD_cons_succ]
      rw [Nat.add_lt_add_iff_right, Nat.add_lt_add_iff_right]; exact this
theorem tw_le {f : UInt8 → Bool} {l : List UInt8} : (l.takeWhile f).length ≤ l.length := (List.takeWhile_prefix (p := f) (l := l)).length_le
theorem getD_drop {l : List UInt8} {i j : Nat} : (l.drop i).getD j 0 = l.getD (i + j) 0 := by simp [List.getD_eq_getElem?_getD]
/-- a run of bytes in a text, from i on: q stands in it -/
theorem run_lt {f : UInt8 → Bool} {i q : Nat} (h1 : i ≤ q) (h2 : q ≤ i + ((txt.drop i).takeWhile f).length) (hi : i ≤ txt.length) : (q < i + ((txt.drop i).takeWhile f).length) ↔ q < txt.length ∧ f (txt.getD q 0) = true := by
  have := tw_lt (f := f) (l := txt.drop i) (j := q - i) (by omega)
  rw [getD_drop, show i + (q - i) = q by omega, List.length_drop] at this
  constructor
  · intro h; have h3 := this.1 (by omega); exact ⟨by omega, h3.2⟩
  · rintro ⟨a, b⟩; have h3 := this.2 ⟨by omega, b⟩; omega
theorem wu64 {x : Int} (h : 0 ≤ x ∧ x < 18446744073709551616) : IntKind.u64.wrap x = x := by
  have : IntKind.u64.wrap x = x % 18446744073709551616 := by simp [IntKind.wrap, IntKind.bits, IntKind.signed]
  rw [this]; omega
theorem wu8 {x : Int} (h : 0 ≤ x ∧ x < 256) : IntKind.u8.wrap x = x := by
  have : IntKind.u8.wrap x = x % 256 := by simp [IntKind.wrap, IntKind.bits, IntKind.signed]
  rw [this]; omega
theorem wdig {c : UInt8} {d : Nat} (h : c.toNat = d + 48) (hd : d ≤ 9) : IntKind.u64.wrap (IntKind.u8.wrap ((c.toNat : Int) - 48)) = d := by
  rw [wu8 (by omega), wu64 (by omega)]; omega
theorem wovf {d : Nat} (hd : d ≤ 9) : IntKind.u64.wrap ((IntKind.u64.wrap (9223372036854775807 - (d : Int))).tdiv 10) = ((9223372036854775807 - d) / 10 : Nat) := by
  rw [wu64 (x := 9223372036854775807 - (d : Int)) (by omega), Int.tdiv_eq_ediv_of_nonneg (by omega), wu64 (by omega)]
  omega
theorem wstep {n d : Nat} (hd : d ≤ 9) (hn : n ≤ (9223372036854775807 - d) / 10) : IntKind.u64.wrap (IntKind.u64.wrap (10 * (n : Int)) + d) = ((10 * n + d : Nat) : Int) := by
  rw [wu64 (x := 10 * (n : Int)) (by omega), wu64 (by omega)]
  omega
theorem toNat_nat (q : Nat) : (q : Int).toNat = q := Int.toNat_natCast q
set_option maxHeartbeats 12800000 in
theorem step_ret (h : PB w p txt i k) (hl : txt.length ≤ 4096) (hi : i ≤ txt.length) :
    RetP Tryz.prog 41 [ptr p] w (fun v w' => v = .tuple #[] ∧ PAt w' p txt (lex txt i) ∧ Kp [p] w w')
      (fun v w' => ∃ j : Nat, lex txt i = .bad j ∧ v = refV 300 j ∧ Kp [p] w w') := by
  have hlx := lex_step hi
  unfold skipB at hlx
  have htl := tw_le (f := blankB) (l := txt.drop i)
  rw [List.length_drop] at htl
  generalize hfq : i + ((txt.drop i).takeWhile blankB).length = f at hlx
  have hfl : f ≤ txt.length := by omega
  refine enterP Tryz.call41 Tryz.func41 rfl rfl rfl rfl ?_
  (repeat first|refine zC ?_|refine zb ?_)
  refine r_loop (α := Nat) [0] (fun _ => [ptr p]) (fun q W => i ≤ q ∧ q ≤ f ∧ Kp [p] w W ∧ PB W p txt q k) (fun q => f - q) i rfl ⟨Nat.le_refl _, by omega, Kp.refl _ _, h⟩ ?_
  rintro q e0 W ⟨hq1, hq2, kW, hB⟩
  have hql : q ≤ txt.length := by omega
  refine r_seq ?_
  refine r_seq ?_
  refine r_bool [0] [ptr p] 63 (decide (q < f)) (fun W' => Sm W W') ?_ ?_
  · have hrun := run_lt (f := blankB) hq1 (by omega) hi
    rw [hfq] at hrun
    refine r_quietS follows_mixed (by kernel_rfl) ?_
    (repeat first|refine yo rfl rfl trivial ?_|refine q_load rfl (fun _ hs => (Sm.blk hs hB).cell rfl) rfl rfl rfl rfl ?_)
    refine q_split _ _ rfl rfl rfl (fun h1 => ?_) (fun h1 => ?_)
    · have h1 : (q : Int) < txt.length := of_decide_eq_true h1
      have fin : ∀ b : Bool, b = blankB (txt.getD q 0) → b = decide (q < f) := fun b hb => by
        rw [hb, Bool.eq_iff_iff, decide_eq_true_eq, hrun]
        exact ⟨fun h => ⟨by omega, h⟩, fun h => h.2⟩
      rw [blank_iff] at fin
      (repeat first|refine yo rfl rfl (by first|exact trivial|(simp only[AllP];omega)) ?_|refine q_load rfl (fun _ hs => (Sm.blk hs hB).cell rfl) rfl rfl rfl rfl ?_)
      refine q_split _ _ rfl rfl rfl (fun h2 => ?_) (fun h2 => ?_)
      · (repeat first|refine yo rfl rfl trivial ?_|refine yn ?_|refine q_know _ _ (some true) rfl rfl rfl ?_)
        intro w' hs
        exact ⟨rfl, ⟨_, rfl, fin _ (by rw [toNat_nat] at h2; rw [h2]; rfl)⟩, hs⟩
      · (repeat first|refine yo rfl rfl (by first|exact trivial|(simp only[AllP];omega)) ?_|refine q_load rfl (fun _ hs => (Sm.blk hs hB).cell rfl) rfl rfl rfl rfl ?_)
        refine q_split _ _ rfl rfl rfl (fun h3 => ?_) (fun h3 => ?_)
        · (repeat first|refine yo rfl rfl trivial ?_|refine yn ?_|refine q_know _ _ (some true) rfl rfl rfl ?_)
          intro w' hs
          exact ⟨rfl, ⟨_, rfl, fin _ (by rw [toNat_nat] at h2 h3; rw [h2, h3]; rfl)⟩, hs⟩
        · (repeat first|refine yo rfl rfl (by first|exact trivial|(simp only[AllP];omega)) ?_|refine q_load rfl (fun _ hs => (Sm.blk hs hB).cell rfl) rfl rfl rfl rfl ?_)
          refine q_split _ _ rfl rfl rfl (fun h4 => ?_) (fun h4 => ?_)
          · (repeat first|refine yo rfl rfl trivial ?_|refine yn ?_)
            intro w' hs
            exact ⟨rfl, ⟨_, rfl, fin _ (by rw [toNat_nat] at h2 h3 h4; rw [h2, h3, h4]; rfl)⟩, hs⟩
          · (repeat first|refine yo rfl rfl (by first|exact trivial|(simp only[AllP];omega)) ?_|refine yn ?_|refine q_load rfl (fun _ hs => (Sm.blk hs hB).cell rfl) rfl rfl rfl rfl ?_)
            intro w' hs
            exact ⟨rfl, ⟨_, rfl, fin _ (by rw [toNat_nat] at h2 h3 h4; rw [h2, h3, h4]; rfl)⟩, hs⟩
    · have h1 : ¬ (q : Int) < txt.length := of_decide_eq_false h1
      (repeat first|refine yo rfl rfl trivial ?_|refine yn ?_|refine q_know _ _ none rfl rfl rfl ?_)
      intro w' hs
      exact ⟨rfl, ⟨_, rfl, by symm; rw [decide_eq_false_iff_not]; omega⟩, hs⟩
  intro e1 W1 hs1
  have hB1 : PB W1 p txt q k := hs1.blk hB
  have k1 : Kp [p] w W1 := kW.trans (hs1.kp [p])
  refine r_if rfl (fun hc => ?_) (fun hc => ?_)
  · (repeat first|refine zg ?_|refine zo rfl rfl (by first|exact trivial|(simp only[AllP];omega)) ?_|refine zb ?_|refine zk ?_|refine o_load rfl hB1 rfl rfl rfl rfl rfl ?_)
    refine o_store (b := p) (off := 1) (v := I ((q : Int) + 1)) rfl hB1 (by simp) rfl rfl rfl rfl rfl rfl ?_
    intro W2 hu2
    (repeat refine zn ?_)
    exact ⟨q + 1, rfl, ⟨by omega, by omega, k1.trans (hu2.kp [p] (.inl (by simp))), hu2.blk⟩, by omega⟩
  · have hqf : q = f := by omega
    subst hqf
    clear hq1 hq2 hc hB hs1 kW
    (repeat first|refine zA ?_|refine zg ?_|refine zo rfl rfl trivial ?_|refine zn ?_|refine ze rfl ?_|refine o_load rfl hB1 rfl rfl rfl rfl rfl ?_)
    refine o_build [S [], I (-1), I q] rfl rfl rfl rfl rfl rfl rfl ?_
    (repeat refine zo rfl rfl trivial ?_)
    refine o_storeA (b := p) (off := 2) (cs := [S [], I (-1), I q]) rfl hB1 (by simp) rfl (by simp [Value.oneCell']) rfl rfl rfl rfl ?_
    intro W2 hu2
    have hB2 : PB W2 p txt q ⟨[], -1, q⟩ := hu2.blk
    have k2 : Kp [p] w W2 := k1.trans (hu2.kp [p] (.inl (by simp)))
    clear hB1 hu2 k1
    (repeat first|refine zA ?_|refine zB ?_|refine zg ?_|refine zo rfl rfl trivial ?_|refine zn ?_|refine o_load rfl hB2 rfl rfl rfl rfl rfl ?_)
    refine r_if rfl (fun hc => ?_) (fun hc => ?_)
    · have hc : q = txt.length := by omega
      (repeat refine zr ?_)
      refine ⟨_, rfl, rfl, ?_, k2⟩
      rw [hlx, hc, List.drop_length]
      exact ⟨rfl, hc ▸ hB2⟩
    have hql : q < txt.length := by omega
    rw [chr_get hql] at hlx
    have hch := chr_get hql
    generalize hcc : txt.getD q 0 = c at hlx hch
    dsimp only at hlx
    refine zk ?_
    refine r_seq ?_
    refine r_cut (α := Nat × Int) [0, 2] (fun _ => [ptr p, I q]) (fun x W => PB W p txt (q + x.1) ⟨[], x.2, q⟩ ∧ 1 ≤ x.1 ∧ q + x.1 ≤ txt.length ∧ lex txt i = .tok ⟨(txt.drop q).take x.1, x.2, q⟩ (lex txt (q + x.1)) ∧ Kp [p] w W) ?_ ?_
    · (repeat first|refine zA ?_|refine zg ?_|refine zo rfl rfl (by first|exact trivial|(simp only[AllP];omega)) ?_|refine zn ?_|refine zb ?_|refine o_load rfl hB2 rfl rfl rfl rfl rfl ?_)
      rw [toNat_nat, hcc]
      refine o_call (letter_ret c) rfl rfl rfl ?_
      rintro v w' ⟨rfl, rfl⟩
      (repeat first|refine zo rfl rfl trivial ?_|refine zn ?_)
      refine r_cond rfl (fun hlt => ?_) (fun hlt => ?_)
      · -- a word
        have ht1 : tok1 q (c :: txt.drop (q + 1)) = some ⟨(txt.drop q).takeWhile (fun c => letterB c || digitB c), -1, q⟩ := by
          simp only [tok1, hlt, if_true, hch, List.takeWhile_cons, Bool.true_or]
        rw [ht1] at hlx
        dsimp only at hlx
        have hm := tw_le (f := fun c => letterB c || digitB c) (l := txt.drop q)
        rw [List.length_drop] at hm
        have htake : (txt.drop q).takeWhile (fun c => letterB c || digitB c) = (txt.drop q).take ((txt.drop q).takeWhile (fun c => letterB c || digitB c)).length := List.prefix_iff_eq_take.1 (List.takeWhile_prefix _)
        have hm1 : 1 ≤ ((txt.drop q).takeWhile (fun c => letterB c || digitB c)).length := by rw [hch]; simp [List.takeWhile_cons, hlt]
        generalize hmm : ((txt.drop q).takeWhile (fun c => letterB c || digitB c)).length = m at hlx hm htake hm1
        (repeat refine zb ?_)
        refine r_loop (α := Nat) [0, 2] (fun _ => [ptr p, I q]) (fun r W => q ≤ r ∧ r ≤ q + m ∧ Kp [p] w W ∧ PB W p txt r ⟨[], -1, q⟩) (fun r => q + m - r) q rfl ⟨Nat.le_refl _, by omega, k2, hB2⟩ ?_
        rintro r e0 W ⟨hr1, hr2, kW, hB⟩
        refine r_seq ?_
        refine r_seq ?_
        refine r_bool [0, 2] [ptr p, I q] 132 (decide (r < q + m)) (fun W' => Sm W W') ?_ ?_
        · have hrun := run_lt (f := fun c => letterB c || digitB c) (txt := txt) hr1 (by omega) (by omega)
          rw [hmm] at hrun
          refine r_quietS follows_mixed (by kernel_rfl) ?_
          (repeat first|refine yo rfl rfl trivial ?_|refine q_load rfl (fun _ hs => (Sm.blk hs hB).cell rfl) rfl rfl rfl rfl ?_)
          refine q_split _ _ rfl rfl rfl (fun h1 => ?_) (fun h1 => ?_)
          · have h1 : (r : Int) < txt.length := of_decide_eq_true h1
            have fin : ∀ b : Bool, b = (letterB (txt.getD r 0) || digitB (txt.getD r 0)) → b = decide (r < q + m) := fun b hb => by
              rw [hb, Bool.eq_iff_iff, decide_eq_true_eq, hrun]
              exact ⟨fun h => ⟨by omega, h⟩, fun h => h.2⟩
            (repeat first|refine yo rfl rfl (by first|exact trivial|(simp only[AllP];omega)) ?_|refine q_load rfl (fun _ hs => (Sm.blk hs hB).cell rfl) rfl rfl rfl rfl ?_)
            rw [toNat_nat]
            refine q_call (.bool (letterB (txt.getD r 0))) (fun w' hw => (letter_ret (txt.getD r 0)).mono (fun v w'' ⟨h1, h2⟩ => ⟨h1, h2 ▸ hw⟩)) Tryz.call77 rfl rfl rfl ?_
            (repeat refine yo rfl rfl trivial ?_)
            refine q_split _ _ rfl rfl rfl (fun h2 => ?_) (fun h2 => ?_)
            · (repeat first|refine yo rfl rfl trivial ?_|refine yn ?_)
              intro w' hs
              exact ⟨rfl, ⟨_, rfl, fin _ (by rw [h2]; rfl)⟩, hs⟩
            · (repeat first|refine yo rfl rfl (by first|exact trivial|(simp only[AllP];omega)) ?_|refine q_load rfl (fun _ hs => (Sm.blk hs hB).cell rfl) rfl rfl rfl rfl ?_)
              rw [toNat_nat]
              refine q_call (.bool (digitB (txt.getD r 0))) (fun w' hw => (digit_ret (txt.getD r 0)).mono (fun v w'' ⟨h1, h2⟩ => ⟨h1, h2 ▸ hw⟩)) Tryz.call78 rfl rfl rfl ?_
              (repeat first|refine yo rfl rfl trivial ?_|refine yn ?_)
              intro w' hs
              exact ⟨rfl, ⟨_, rfl, fin _ (by rw [h2]; rfl)⟩, hs⟩
          · have h1 : ¬ (r : Int) < txt.length := of_decide_eq_false h1
            (repeat first|refine yo rfl rfl trivial ?_|refine yn ?_|refine q_know _ _ none rfl rfl rfl ?_)
            intro w' hs
            exact ⟨rfl, ⟨_, rfl, by symm; rw [decide_eq_false_iff_not]; omega⟩, hs⟩
        intro e1 W1 hs1
        have hB1 : PB W1 p txt r ⟨[], -1, q⟩ := hs1.blk hB
        have k1 : Kp [p] w W1 := kW.trans (hs1.kp [p])
        refine r_if rfl (fun hc => ?_) (fun hc => ?_)
        · (repeat first|refine zg ?_|refine zo rfl rfl (by first|exact trivial|(simp only[AllP];omega)) ?_|refine zb ?_|refine zk ?_|refine o_load rfl hB1 rfl rfl rfl rfl rfl ?_)
          refine o_store (b := p) (off := 1) (v := I ((r : Int) + 1)) rfl hB1 (by simp) rfl rfl rfl rfl rfl rfl ?_
          intro W2 hu2
          (repeat refine zn ?_)
          exact ⟨r + 1, rfl, ⟨by omega, by omega, k1.trans (hu2.kp [p] (.inl (by simp))), hu2.blk⟩, by omega⟩
        · have hrm : r = q + m := by omega
          subst hrm
          (repeat refine ze rfl ?_)
          exact ⟨(m, -1), rfl, hB1, hm1, by omega, by rw [hlx, htake], k1⟩
      · (repeat first|refine zA ?_|refine zg ?_|refine zo rfl rfl trivial ?_)
        refine o_call (digit_ret c) rfl rfl rfl ?_
        rintro v w' ⟨rfl, rfl⟩
        (repeat first|refine zo rfl rfl trivial ?_|refine zn ?_)
        refine r_cond rfl (fun hdg => ?_) (fun hdg => ?_)
        · -- a number
          have ht1 : tok1 q (c :: txt.drop (q + 1)) = (numAcc 0 ((txt.drop q).takeWhile digitB)).map fun (n : Nat) => (⟨(txt.drop q).takeWhile digitB, (n : Int), q⟩ : Tok) := by
            simp [tok1, hlt, hdg, hch, List.takeWhile_cons]
          rw [ht1] at hlx
          have hm := tw_le (f := digitB) (l := txt.drop q)
          rw [List.length_drop] at hm
          have htake : (txt.drop q).takeWhile digitB = (txt.drop q).take ((txt.drop q).takeWhile digitB).length := List.prefix_iff_eq_take.1 (List.takeWhile_prefix _)
          have hm1 : 1 ≤ ((txt.drop q).takeWhile digitB).length := by rw [hch]; simp [List.takeWhile_cons, hdg]
          have hat : ∀ j, j < ((txt.drop q).takeWhile digitB).length → ((txt.drop q).takeWhile digitB).getD j 0 = txt.getD (q + j) 0 := fun j hj => by
            rw [← getD_drop, htake, List.getD_eq_getElem?_getD, List.getD_eq_getElem?_getD, List.getElem?_take_of_lt hj]
          have hrunD := fun (r : Nat) (h1 : q ≤ r) (h2 : r ≤ q + ((txt.drop q).takeWhile digitB).length) => run_lt (f := digitB) (txt := txt) h1 h2 (by omega)
          generalize hDD : (txt.drop q).takeWhile digitB = D at hlx hm htake hm1 hat hrunD
          generalize hmm : D.length = m at hm htake hm1 hat hrunD
          (repeat first|refine zA ?_|refine zC ?_|refine zg ?_|refine zo rfl rfl trivial ?_|refine zn ?_|refine zb ?_)
          refine r_loop (α := Nat × Nat) [0, 2, 4] (fun x => [ptr p, I q, .int .u64 (x.2 : Int)]) (fun x W => q ≤ x.1 ∧ x.1 ≤ q + m ∧ Kp [p] w W ∧ PB W p txt x.1 ⟨[], -1, q⟩ ∧ numAcc 0 D = numAcc x.2 (D.drop (x.1 - q)) ∧ x.2 ≤ 9223372036854775807) (fun x => q + m - x.1) (q, 0) rfl ⟨Nat.le_refl _, by dsimp only; omega, k2, hB2, by simp, by simp⟩ ?_
          rintro ⟨r, n⟩ e0 W ⟨hr1, hr2, kW, hB, hacc, hn⟩
          dsimp only at hr1 hr2 hB hacc hn ⊢
          refine r_seq ?_
          refine r_seq ?_
          refine r_bool [0, 2, 4] [ptr p, I q, .int .u64 (n : Int)] 164 (decide (r < q + m)) (fun W' => Sm W W') ?_ ?_
          · have hrun := hrunD r hr1 hr2
            refine r_quietS follows_mixed (by kernel_rfl) ?_
            (repeat first|refine yo rfl rfl trivial ?_|refine q_load rfl (fun _ hs => (Sm.blk hs hB).cell rfl) rfl rfl rfl rfl ?_)
            refine q_split _ _ rfl rfl rfl (fun h1 => ?_) (fun h1 => ?_)
            · have h1 : (r : Int) < txt.length := of_decide_eq_true h1
              (repeat first|refine yo rfl rfl (by first|exact trivial|(simp only[AllP];omega)) ?_|refine q_load rfl (fun _ hs => (Sm.blk hs hB).cell rfl) rfl rfl rfl rfl ?_)
              rw [toNat_nat]
              refine q_call (.bool (digitB (txt.getD r 0))) (fun w' hw => (digit_ret (txt.getD r 0)).mono (fun v w'' ⟨h1, h2⟩ => ⟨h1, h2 ▸ hw⟩)) Tryz.call78 rfl rfl rfl ?_
              (repeat first|refine yo rfl rfl trivial ?_|refine yn ?_)
              intro w' hs
              refine ⟨rfl, ⟨_, rfl, ?_⟩, hs⟩
              rw [Bool.eq_iff_iff, decide_eq_true_eq, hrun]
              exact ⟨fun h => ⟨by omega, h⟩, fun h => h.2⟩
            · have h1 : ¬ (r : Int) < txt.length := of_decide_eq_false h1
              (repeat first|refine yo rfl rfl trivial ?_|refine yn ?_)
              intro w' hs
              exact ⟨rfl, ⟨_, rfl, by symm; rw [decide_eq_false_iff_not]; omega⟩, hs⟩
          intro e1 W1 hs1
          have hB1 : PB W1 p txt r ⟨[], -1, q⟩ := hs1.blk hB
          have k1 : Kp [p] w W1 := kW.trans (hs1.kp [p])
          refine r_if rfl (fun hc => ?_) (fun hc => ?_)
          · obtain ⟨hrl, hdr⟩ := (hrunD r hr1 hr2).1 hc
            have hdrop : D.drop (r - q) = txt.getD r 0 :: D.drop (r + 1 - q) := by
              have h5 := List.drop_eq_getElem_cons (l := D) (i := r - q) (by omega)
              have h6 := hat (r - q) (by omega)
              rw [List.getD_eq_getElem?_getD, List.getElem?_eq_getElem (by omega), show q + (r - q) = r by omega] at h6
              rw [h5, show r + 1 - q = r - q + 1 by omega, ← h6]; rfl
            rw [digit_iff, Bool.and_eq_true, decide_eq_true_eq, decide_eq_true_eq] at hdr
            generalize hcr : txt.getD r 0 = cr at hdrop hdr
            obtain ⟨d, hd9, hcd⟩ : ∃ d : Nat, d ≤ 9 ∧ cr.toNat = d + 48 := ⟨cr.toNat - 48, by omega, by omega⟩
            have hacc2 : numAcc n (D.drop (r - q)) = if n ≤ (9223372036854775807 - d) / 10 then numAcc (10 * n + d) (D.drop (r + 1 - q)) else none := by
              rw [hdrop, numAcc, show cr.toNat - 48 = d by omega]
            (repeat first|refine zC ?_|refine zb ?_|refine zk ?_)
            refine r_seq ?_
            refine r_cut (α := Unit) [0, 2, 4, 5] (fun _ => [ptr p, I q, .int .u64 (n : Int), .int .u64 (d : Int)]) (fun _ W' => Sm W1 W') ?_ ?_
            · refine r_quietS follows_mixed (by kernel_rfl) ?_
              (repeat first|refine yo rfl rfl (by first|exact trivial|(simp only[AllP];omega)) ?_|refine yn ?_|refine q_load rfl (fun _ hs => (Sm.blk hs hB1).cell rfl) rfl rfl rfl rfl ?_)
              rw [toNat_nat, hcr]
              intro w' hs
              refine ⟨(), ?_, hs⟩
              rw [wdig hcd hd9]
              rfl
            rintro _ e2 W2 hs2
            have hB2' : PB W2 p txt r ⟨[], -1, q⟩ := hs2.blk hB1
            have k2' : Kp [p] w W2 := k1.trans (hs2.kp [p])
            (repeat first|refine zA ?_|refine zB ?_|refine zg ?_|refine zo rfl rfl (by first|exact trivial|(simp only[AllP];omega)) ?_|refine zn ?_)
            rw [wovf hd9]
            refine r_if rfl (fun ho => ?_) (fun ho => ?_)
            · rw [hacc2, if_neg (by omega)] at hacc
              rw [hacc] at hlx
              (repeat first|refine zg ?_|refine zo rfl rfl trivial ?_)
              exact o_callP (refuse_ret _ _ (fun _ _ => False)) rfl rfl rfl (fun v w' ⟨h, h'⟩ => ⟨q, hlx, h, h' ▸ k2'⟩) (fun v w' h => h.elim)
            · rw [hacc2, if_pos (by omega)] at hacc
              (repeat first|refine zg ?_|refine zo rfl rfl trivial ?_|refine zn ?_|refine zk ?_)
              rw [wstep hd9 (by omega)]
              (repeat first|refine zo rfl rfl (by first|exact trivial|(simp only[AllP];omega)) ?_|refine o_load rfl hB2' rfl rfl rfl rfl rfl ?_)
              refine o_store (off := 1) rfl hB2' (by simp) rfl rfl rfl rfl rfl rfl ?_
              intro W3 hu3
              (repeat refine zn ?_)
              exact ⟨(r + 1, 10 * n + d), rfl, ⟨by dsimp only; omega, by dsimp only; omega, k2'.trans (hu3.kp [p] (.inl (by simp))), hu3.blk, hacc, by dsimp only; omega⟩, by dsimp only; omega⟩
          · have hrm : r = q + m := by omega
            subst hrm
            rw [show q + m - q = m by omega, ← hmm, List.drop_length] at hacc
            rw [hacc] at hlx
            dsimp only [numAcc, Option.map_some] at hlx
            rw [hmm] at hlx
            (repeat first|refine zg ?_|refine zo rfl rfl (by first|exact trivial|(simp only[AllP];omega)) ?_|refine ze rfl ?_)
            refine o_store (off := 3) rfl hB1 (by simp) rfl rfl rfl rfl rfl rfl ?_
            intro W3 hu3
            (repeat refine zn ?_)
            exact ⟨(m, n), rfl, hu3.blk, hm1, by dsimp only; omega, by dsimp only; rw [hlx, htake], k1.trans (hu3.kp [p] (.inl (by simp)))⟩
        · -- a mark
          have ht1 : tok1 q (c :: txt.drop (q + 1)) = if markLen (txt.drop q) = 0 then none else some ⟨(txt.drop q).take (markLen (txt.drop q)), -1, q⟩ := by
            simp [tok1, hlt, hdg, hch]
          rw [ht1] at hlx
          (repeat first|refine zg ?_|refine zo rfl rfl trivial ?_)
          refine o_callP (show RetP Tryz.prog _ [ptr p, Y c] w' _ _ from hcc ▸ mark_ret hB2 hl hql) rfl rfl rfl (fun v w' hh => ?_) ?_
          · obtain ⟨h1, h2, h3⟩ := hh
            rw [if_pos h1] at hlx
            exact ⟨q, hlx, h2, k2.trans h3⟩
          rintro v w3 ⟨rfl, h1, h2, h3⟩
          rw [if_neg h1] at hlx
          dsimp only at hlx
          have hmk : 1 ≤ markLen (txt.drop q) ∧ markLen (txt.drop q) ≤ txt.length - q := by
            refine ⟨by omega, ?_⟩
            rw [mark_at hql]
            have : ∀ {z : Option UInt8}, txt[q + 1]? = z → z = some 61 → q + 1 < txt.length := fun h1 h2 => by
              rw [h2] at h1; exact (List.getElem?_eq_some_iff.1 h1).1
            split
            · split
              · have := this rfl (by assumption); omega
              · omega
            · split
              · split
                · have := this rfl (by assumption); omega
                · omega
              · split <;> omega
          (repeat refine zn ?_)
          exact ⟨(markLen (txt.drop q), -1), rfl, h2, by dsimp only; omega, by dsimp only; omega, by dsimp only; rw [hlx]; simp only [List.length_take, List.length_drop]; rw [show min (markLen (txt.drop q)) (txt.length - q) = markLen (txt.drop q) by omega], k2.trans h3⟩
    · rintro ⟨m, n⟩ e1 W ⟨hB, hm1, hm2, hlx2, kW⟩
      dsimp only at hB hm1 hm2 hlx2
      refine r_lastL follows_mixed rfl (by kernel_rfl) (by kernel_rfl) ?_
      (repeat first|refine yo rfl rfl (by first|exact trivial|(simp only[AllP];omega)) ?_|refine yn ?_|refine q_load rfl (fun _ hs => (Sm.blk hs hB).cell rfl) rfl rfl rfl rfl ?_)
      intro w' hs
      have hB' : PB w' p txt (q + m) ⟨[], n, q⟩ := hs.blk hB
      refine o_store (b := p) (off := 2) rfl hB' (by simp) rfl rfl rfl rfl rfl rfl ?_
      intro W3 hu3
      have etx : (txt.take ((q + m : Nat) : Int).toNat).drop (q : Int).toNat = (txt.drop q).take m := by
        rw [toNat_nat, toNat_nat, List.drop_take]; congr 1; omega
      rw [etx] at hu3
      (repeat refine zn ?_)
      refine ⟨_, rfl, rfl, ?_, (kW.trans (hs.kp [p])).trans (hu3.kp [p] (.inl (by simp)))⟩
      rw [hlx2]
      have hln : ((txt.drop q).take m).length = m := by simp; omega
      exact ⟨by rw [hln]; exact hu3.blk, by rw [hln]; exact hm2, by rw [hln], by rw [hln]; exact hm1⟩
end Go.Vc
/- Query: is, must. -/
namespace Go.Vc
open Go Go.Proofs
set_option maxRecDepth 10000
variable {w : World} {p : Nat} {txt : List UInt8} {s : TS}
/-- the token that stands there -/
def TS.hd : TS → Tok
  | .tok t _ => t
  | .stop j => ⟨[], -1, j⟩
  | .bad j => ⟨[], -1, j⟩
def TS.ix : TS → Nat
  | .tok t _ => t.at_ + t.text.length
  | .stop j => j
  | .bad j => j
theorem PAt.pb (h : PAt w p txt s) : PB w p txt s.ix s.hd := by
  cases s with
  | tok t r => exact h.1
  | stop j => exact h.2
  | bad j => exact h.elim
theorem PAt.kp {w' : World} {F : List Nat} (h : PAt w p txt s) (hk : Kp F w w') (hp : p ∉ F) : PAt w' p txt s := by
  cases s with
  | tok t r => exact ⟨hk.blk hp h.1, h.2⟩
  | stop j => exact ⟨h.1, hk.blk hp h.2⟩
  | bad j => exact h.elim
/-- what is thrown, by the model -/
def OutE {α : Type} (r : Except (Int × Int) α) (p : Nat) (w : World) : Value → World → Prop := fun v w' => ∃ c i : Int, r = .error (c, i) ∧ v = refV c i ∧ Kp [p] w w'
theorem adv_ret (h : PAt w p txt s) (hl : txt.length ≤ 4096) : RetP Tryz.prog 41 [ptr p] w (fun v w' => v = .tuple #[] ∧ (∃ s', adv s = .ok s' ∧ PAt w' p txt s') ∧ Kp [p] w w') (OutE (adv s) p w) := by
  cases s with
  | tok t r =>
    obtain ⟨h1, h2, rfl, _⟩ := h
    refine (step_ret h1 hl h2).mono ?_ ?_
    · rintro v w' ⟨hv, hp, hk⟩
      refine ⟨hv, ⟨_, ?_, hp⟩, hk⟩
      cases hx : lex txt (t.at_ + t.text.length) with
      | bad j => rw [hx] at hp; exact hp.elim
      | stop j => rfl
      | tok u r => rfl
    · rintro v w' ⟨j, hj, hv, hk⟩
      exact ⟨300, j, by rw [hj]; rfl, hv, hk⟩
  | stop j =>
    obtain ⟨rfl, h2⟩ := h
    have hx : lex txt txt.length = .stop txt.length := by rw [lex_step (Nat.le_refl _), List.drop_length]; simp [skipB]
    refine (step_ret h2 hl (Nat.le_refl _)).mono ?_ ?_
    · rintro v w' ⟨hv, hp, hk⟩
      exact ⟨hv, ⟨_, rfl, hx ▸ hp⟩, hk⟩
    · rintro v w' ⟨j, hj, _⟩
      rw [hx] at hj; cases hj
  | bad j => exact h.elim
theorem is_hd {word : List UInt8} (hw : word ≠ []) : s.is word = (decide (s.hd.text = word) && decide (s.hd.num < 0)) := by
  cases s with
  | tok t r => rfl
  | stop j => simp [TS.is, TS.hd, Ne.symm hw]
  | bad j => simp [TS.is, TS.hd, Ne.symm hw]
theorem is_ret {word : List UInt8} (hw : word ≠ []) (h : PAt w p txt s) (hl : txt.length ≤ 4096) : RetP Tryz.prog 156 [ptr p, S word] w
    (fun v w' => Kp [p] w w' ∧ ((s.is word = true ∧ v = .bool true ∧ ∃ s', adv s = .ok s' ∧ PAt w' p txt s') ∨ (s.is word = false ∧ v = .bool false ∧ PAt w' p txt s))) (fun v w' => s.is word = true ∧ OutE (adv s) p w v w') := by
  have hB := h.pb
  rw [is_hd hw]
  refine enterP Tryz.call156 Tryz.func156 rfl rfl rfl rfl ?_
  (repeat first|refine zA ?_|refine zB ?_|refine zg ?_|refine zo rfl rfl trivial ?_|refine zn ?_|refine o_load rfl hB rfl rfl rfl rfl rfl ?_)
  refine o_split _ _ rfl rfl rfl (fun h1 => ?_) (fun h1 => ?_)
  · have h1 : ¬ s.hd.text = word := by simpa using h1
    (repeat first|refine zA ?_|refine zg ?_|refine zo rfl rfl trivial ?_|refine zn ?_|refine zr ?_|refine zt rfl ?_)
    exact ⟨_, rfl, Kp.refl _ _, .inr ⟨by simp [h1], rfl, h⟩⟩
  · have h1 : s.hd.text = word := by simpa using h1
    (repeat first|refine zo rfl rfl trivial ?_|refine zn ?_|refine o_load rfl hB rfl rfl rfl rfl rfl ?_)
    refine r_if rfl (fun h2 => ?_) (fun h2 => ?_)
    · (repeat first|refine zA ?_|refine zg ?_|refine zo rfl rfl trivial ?_|refine zn ?_|refine zr ?_)
      exact ⟨_, rfl, Kp.refl _ _, .inr ⟨by simp [h1]; omega, rfl, h⟩⟩
    · (repeat first|refine zA ?_|refine zg ?_|refine zo rfl rfl trivial ?_|refine zk ?_)
      refine o_callP (adv_ret h hl) rfl rfl rfl (fun v w' hh => ⟨by simp [h1]; omega, hh⟩) ?_
      rintro v w1 ⟨rfl, hs, hk⟩
      (repeat first|refine zA ?_|refine zg ?_|refine zo rfl rfl trivial ?_|refine zn ?_|refine zr ?_)
      exact ⟨_, rfl, hk, .inl ⟨by simp [h1]; omega, rfl, hs⟩⟩
theorem must_ret {word : List UInt8} (hw : word ≠ []) (h : PAt w p txt s) (hl : txt.length ≤ 4096) : RetP Tryz.prog 205 [ptr p, S word] w
    (fun v w' => v = .tuple #[] ∧ (∃ s', mustT s word = .ok s' ∧ PAt w' p txt s') ∧ Kp [p] w w') (OutE (mustT s word) p w) := by
  unfold mustT
  refine enterP Tryz.call205 Tryz.func205 rfl rfl rfl rfl ?_
  (repeat first|refine zA ?_|refine zg ?_|refine zo rfl rfl trivial ?_)
  refine o_callP (is_ret hw h hl) rfl rfl rfl (fun v w' hh => by rw [if_pos hh.1]; exact hh.2) ?_
  rintro v w1 ⟨hk, ⟨h1, rfl, h2⟩ | ⟨h1, rfl, h2⟩⟩
  · (repeat first|refine zo rfl rfl trivial ?_|refine zn ?_|refine zk ?_|refine zf rfl ?_)
    exact ⟨_, rfl, rfl, by rw [if_pos h1]; exact h2, hk⟩
  · (repeat first|refine zg ?_|refine zo rfl rfl trivial ?_|refine zn ?_|refine zt rfl ?_)
    refine o_callP (off_ret h2.pb (fun _ _ => False)) rfl rfl rfl (fun v w' ⟨h3, h4⟩ => ?_) (fun v w' h => h.elim)
    rw [h1, if_neg (by simp)]
    exact ⟨301, s.pos, rfl, by rw [h3]; cases s <;> rfl, h4 ▸ hk⟩
end Go.Vc
