/- The document's Fresh, Near, Closest. -/
import Derived.Test.YtghdpibdidfpbaaDoorQClNPlays22
import Derived.Test.YtghdpibdidfpbaaDoorQClNPlays14
import Derived.Test.YtghdpibdidfpbaaDoorQClNPlays23
import Derived.Test.YtghdpibdidfpbaaDoorQClNPlays13
namespace Go.Vc
open Go Go.Proofs
set_option maxRecDepth 10000
variable {w : World} {q : Nat} {l : List Str} {ad : Option Addr} {cap : Nat}
theorem rfresh_bad (h : RTab w q l ad cap) (base : Str) (hs : base.length ≤ 9223372036854775807) (hb : nameB base = false) : Ret Tryd.prog 36 [ptr q, S base] w (fun v w' => v = .tuple #[S [], I 60] ∧ w' = w) := by
  refine enter Tryd.call36 Tryd.func36 rfl rfl rfl rfl ?_
  (repeat first|refine zA ?_|refine zB ?_|refine zg ?_|refine zo rfl rfl trivial ?_|refine zn ?_|refine zk ?_|refine zf rfl ?_)
  refine o_call (rname_ret base hs _) rfl rfl rfl ?_
  rintro v w0 ⟨rfl, rfl⟩
  rw [hb]
  (repeat first|refine zA ?_|refine zg ?_|refine zo rfl rfl trivial ?_|refine zn ?_|refine zr ?_|refine zt rfl ?_)
  exact ⟨_, rfl, rfl, rfl⟩
theorem rfresh_nil (base : Str) : Ret Tryd.prog 36 [.pointer none, S base] w (fun v w' => v = .tuple #[S [], I 1] ∧ w' = w) := by
  refine enter Tryd.call36 Tryd.func36 rfl rfl rfl rfl ?_
  (repeat first|refine zA ?_|refine zB ?_|refine zg ?_|refine zo rfl rfl trivial ?_|refine zn ?_|refine zr ?_|refine zt rfl ?_)
  exact ⟨_, rfl, rfl, rfl⟩
theorem rfresh_ret (hP : PowW w) (h : RTab w q l ad cap) (base : Str) (hb : nameB base = true) : Ret Tryd.prog 36 [ptr q, S base] w (fun v w' => ∃ k, v = .tuple #[S (frn base k), I 0] ∧ frn base k ∉ l ∧ (∀ j, j < k → frn base j ∈ l) ∧ Kp [] w w') := by
  have hb24 : base.length ≤ 24 := by
    simp only [nameB, Bool.and_eq_true, decide_eq_true_eq] at hb; exact hb.1.1.2
  have hfew := h.few
  refine enter Tryd.call36 Tryd.func36 rfl rfl rfl rfl ?_
  (repeat first|refine zA ?_|refine zB ?_|refine zg ?_|refine zo rfl rfl trivial ?_|refine zn ?_|refine zk ?_|refine zf rfl ?_)
  refine o_call (rname_ret base (by omega) _) rfl rfl rfl ?_
  rintro v w0 ⟨rfl, rfl⟩
  rw [hb]
  (repeat first|refine zA ?_|refine zg ?_|refine zo rfl rfl trivial ?_|refine zn ?_|refine zk ?_|refine zf rfl ?_)
  refine o_call (rfind_ret h base) rfl rfl rfl ?_
  rintro v w0 ⟨rfl, rfl⟩
  unfold findV
  (repeat first|refine zA ?_|refine zB ?_|refine zg ?_|refine zo rfl rfl trivial ?_|refine zn ?_|refine zb ?_)
  refine r_loop (α := Nat) [0, 1, 6, 8, 9] (fun k => [ptr q, S base, S (frn base k), .bool (nidx l (frn base k)).isSome, I (k + 1 : Nat)]) (fun k W => (∀ j, j < k → frn base j ∈ l) ∧ Kp [] w0 W) (fun k => 231073 - k) 0 ?_ ⟨fun j hj => by omega, Kp.refl _ _⟩ ?_
  · show [ptr q, S base, S base, .bool (nidx l base).isSome, I 1] = _
    rw [show frn base 0 = base by unfold frn; rw [if_pos rfl]]; rfl
  rintro k e W ⟨hk, kp⟩
  have hk1 := frn_free hfew hk
  have hT := h.kp kp (by simp)
  cases hn : nidx l (frn base k) with
  | none =>
    (repeat first|refine zA ?_|refine zB ?_|refine zg ?_|refine zo rfl rfl trivial ?_|refine zn ?_|refine ze rfl ?_|refine zr ?_|refine zf rfl ?_)
    exact ⟨_, rfl, k, rfl, nidx_none.1 hn, hk, kp⟩
  | some x =>
    have hmem : frn base k ∈ l := List.mem_of_getElem? (nidx_some hn)
    have hk2 : ∀ j, j < k + 1 → frn base j ∈ l := fun j hj => by
      by_cases c : j = k
      · subst c; exact hmem
      · exact hk j (by omega)
    have hk3 := frn_free hfew hk2
    have hnd := nDigits_le (k := k + 1) (by omega)
    have hlen : (Lib.decDigits (k + 1)).length = Lib.nDigits (k + 1) := Lib.decDigits_length (k + 1)
    (repeat first|refine zA ?_|refine zB ?_|refine zC ?_|refine zg ?_|refine zo rfl rfl trivial ?_|refine zn ?_|refine zb ?_|refine zk ?_|refine zt rfl ?_)
    refine o_call (itoaF W (k + 1) (by omega) (hP.kp kp (by simp))) rfl rfl rfl ?_
    rintro v W2 ⟨rfl, kp2⟩
    have hT2 := hT.kp kp2 (by simp)
    (repeat first|refine zA ?_|refine zB ?_|refine zg ?_|refine zo rfl rfl (by first|exact trivial|(simp only[AllP];omega)) ?_|refine zn ?_)
    have e1 : base.take (24 - Lib.nDigits (k + 1)) ++ Lib.decDigits (k + 1) = frn base (k + 1) := by
      unfold frn
      rw [if_neg (by omega)]
    refine r_if rfl (fun hc => ?_) (fun hc => ?_)
    · have hc : (24 : Int) - (Lib.decDigits (k + 1)).length < base.length := hc
      have e2 : base.take ((24 : Int) - (Lib.decDigits (k + 1)).length).toNat ++ Lib.decDigits (k + 1) = frn base (k + 1) := by
        rw [← e1, hlen]
        congr 2; omega
      (repeat first|refine zA ?_|refine zg ?_|refine zo rfl rfl (by first|exact trivial|(simp only[AllP];omega)|(simp only[AllP,cC,cD,cE,cF,cG];omega)) ?_|refine zn ?_)
      rw [e2]
      refine o_call (rfind_ret hT2 (frn base (k + 1))) rfl rfl rfl ?_
      rintro v W3 ⟨rfl, rfl⟩
      unfold findV
      (repeat first|refine zg ?_|refine zo rfl rfl (by first|exact trivial|(simp only[AllP];omega)) ?_|refine zn ?_)
      exact ⟨k + 1, rfl, ⟨hk2, kp.trans kp2⟩, by omega⟩
    · have hc : ¬ (24 : Int) - (Lib.decDigits (k + 1)).length < base.length := hc
      have e2 : base ++ Lib.decDigits (k + 1) = frn base (k + 1) := by
        rw [← e1, List.take_of_length_le (by omega)]
      (repeat first|refine zA ?_|refine zg ?_|refine zo rfl rfl (by first|exact trivial|(simp only[AllP];omega)) ?_|refine zn ?_|refine zk ?_)
      rw [e2]
      refine o_call (rfind_ret hT2 (frn base (k + 1))) rfl rfl rfl ?_
      rintro v W3 ⟨rfl, rfl⟩
      unfold findV
      (repeat first|refine zg ?_|refine zo rfl rfl (by first|exact trivial|(simp only[AllP];omega)) ?_|refine zn ?_)
      exact ⟨k + 1, rfl, ⟨hk2, kp.trans kp2⟩, by omega⟩
/-! ### Near -/
def rnC (l : List Str) (name : Str) (d i : Nat) : List Nat := (List.range i).filter fun j => decide (dist name (l.getD j []) = d)
def rnL (l : List Str) (name : Str) (d : Nat) : List Nat := (List.range d).flatMap fun e => rnC l name e l.length
theorem rnC_succ (l : List Str) (name : Str) (d i : Nat) : rnC l name d (i + 1) = rnC l name d i ++ if dist name (l.getD i []) = d then [i] else [] := by
  unfold rnC
  rw [List.range_succ, List.filter_append]
  congr 1
  by_cases h : dist name (l.getD i []) = d
  · rw [if_pos h, List.filter_cons_of_pos (p := fun j => decide (dist name (l.getD j []) = d)) (decide_eq_true h)]; rfl
  · rw [if_neg h, List.filter_cons_of_neg (p := fun j => decide (dist name (l.getD j []) = d)) (by simpa using h)]; rfl
theorem rnL_succ (l : List Str) (name : Str) (d : Nat) : rnL l name (d + 1) = rnL l name d ++ rnC l name d l.length := by
  unfold rnL
  rw [List.range_succ, List.flatMap_append]
  simp
theorem rnC_mem {l : List Str} {name : Str} {d i j : Nat} : j ∈ rnC l name d i ↔ j < i ∧ dist name (l.getD j []) = d := by
  unfold rnC; simp
theorem rnL_mem {l : List Str} {name : Str} {d j : Nat} : j ∈ rnL l name d ↔ j < l.length ∧ dist name (l.getD j []) < d := by
  unfold rnL
  rw [List.mem_flatMap]
  constructor
  · rintro ⟨e, he, hj⟩
    obtain ⟨h1, h2⟩ := rnC_mem.1 hj
    have := List.mem_range.1 he
    exact ⟨h1, by omega⟩
  · rintro ⟨h1, h2⟩
    exact ⟨_, List.mem_range.2 h2, rnC_mem.2 ⟨h1, rfl⟩⟩
theorem rnL_srt (l : List Str) (name : Str) : ∀ d, Srt (nearD l name) (rnL l name d)
  | 0 => by simp [rnL]
  | d + 1 => by
    rw [rnL_succ]
    refine Srt.append (rnL_srt l name d) ?_ ?_
    · refine List.Pairwise.imp_of_mem (R := (· < ·)) ?_ (List.Pairwise.filter _ List.pairwise_lt_range)
      intro a b ha hb hab
      have h1 := (rnC_mem.1 ha).2
      have h2 := (rnC_mem.1 hb).2
      exact .inr ⟨by unfold nearD; omega, hab⟩
    · intro x hx y hy
      have h1 := (rnL_mem.1 hx).2
      have h2 := (rnC_mem.1 hy).2
      exact .inl (by unfold nearD; omega)
theorem srt_nodup {d : Nat → Int} {l : List Nat} (h : Srt d l) : l.Nodup := h.imp fun {a b} hab e => by subst e; exact hab.irrefl
/-- how many distances are gone through -/
def rnD (most : Int) : Nat := (min most 256 + 1).toNat
theorem rnL_perm (l : List Str) (name : Str) (most : Int) : (rnL l name (rnD most)).Perm (nearOf l name most) := by
  refine (List.perm_ext_iff_of_nodup (srt_nodup (rnL_srt l name _)) (nearOf_inc.imp fun {a b} h e => by omega)).2 fun j => ?_
  rw [rnL_mem, nearOf_mem]
  have := dist_le' name (l.getD j [])
  unfold rnD
  constructor
  · rintro ⟨h1, h2⟩; exact ⟨h1, by omega⟩
  · rintro ⟨h1, h2⟩; exact ⟨h1, by omega⟩
theorem srt_len {l : List Str} {name : Str} {d : Nat} {i : Nat} : (rnL l name d ++ rnC l name d i).length ≤ l.length + i := by
  rw [List.length_append]
  have h1 : (rnL l name d).length ≤ l.length := by
    have h2 : ∀ x ∈ rnL l name d, x ∈ List.range l.length := fun x hx => List.mem_range.2 (rnL_mem.1 hx).1
    have := nodup_len (srt_nodup (rnL_srt l name d)) h2
    simpa using this
  have h3 : (rnC l name d i).length ≤ i := by
    have := List.length_filter_le (fun j => decide (dist name (l.getD j []) = d)) (List.range i)
    simpa [rnC] using this
  omega
set_option maxHeartbeats 3200000 in
/-- over the names as they were copied -/
theorem rnear_ret {pv : Value} {name : Str} {most : Int} (hl : l.length ≤ 131072) (hp : ∃ p, pv = .pointer p) (hN : Ret Tryd.prog 29 [pv] w (fun v w' => ∃ ad' cap', v = .slice ad' l.length cap' ∧ NewS w 9 w' ad' l.length cap' (l.map S))) (hmost : -9223372036854775808 ≤ most ∧ most ≤ 9223372036854775807) :
    Ret Tryd.prog 33 [pv, S name, I most] w (fun v w' => ∃ ad cap, ∃ out : List Nat, v = .slice ad out.length cap ∧ NewS w 3 w' ad out.length cap (out.map encJ) ∧ out.Perm (nearOf l name most) ∧ Srt (nearD l name) out) := by
  obtain ⟨p, rfl⟩ := hp
  refine enter Tryd.call33 Tryd.func33 rfl rfl rfl rfl ?_
  (repeat first|refine zA ?_|refine zg ?_|refine zo rfl rfl trivial ?_|refine zn ?_)
  refine o_call hN rfl rfl rfl ?_
  rintro v w1 ⟨adN, capN, rfl, hnew⟩
  have fin : ∀ {d : Nat} {W : World} {ad : Option Addr} {cap : Nat}, d = rnD most → NewS w1 3 W ad (rnL l name d).length cap ((rnL l name d).map encJ) → ∃ ad' cap', ∃ out : List Nat, Value.slice ad (rnL l name d).length cap = .slice ad' out.length cap' ∧ NewS w 3 W ad' out.length cap' (out.map encJ) ∧ out.Perm (nearOf l name most) ∧ Srt (nearD l name) out := fun {d W ad cap} hd h => ⟨ad, cap, rnL l name d, rfl, h.since hnew.kp, by rw [hd]; exact rnL_perm l name most, rnL_srt l name d⟩
  (repeat first|refine zA ?_|refine zB ?_|refine zg ?_|refine zo rfl rfl trivial ?_|refine zn ?_|refine zb ?_)
  refine r_loop (α := Nat × Option Addr × Nat) [1, 2, 7, 8, 9] (fun g => [S name, I most, .slice g.2.1 (rnL l name g.1).length g.2.2, .slice adN l.length capN, I g.1])
    (fun g W => g.1 ≤ rnD most ∧ Kp [] w1 W ∧ NewS w1 3 W g.2.1 (rnL l name g.1).length g.2.2 ((rnL l name g.1).map encJ)) (fun g => 257 - g.1) (0, none, 0) rfl
    ⟨Nat.zero_le _, Kp.refl _ _, ⟨ownS_nil _ _ _, Kp.refl _ _, by simp [blkOf]⟩⟩ ?_
  rintro ⟨d, adO, capO⟩ e W ⟨hd, kW, hO⟩
  dsimp only at hd hO ⊢
  have hdm : rnD most ≤ 257 := by unfold rnD; omega
  refine r_seq ?_
  refine r_seq ?_
  refine r_cut (α := Bool) [1, 2, 7, 8, 9, 19] (fun z => [S name, I most, .slice adO (rnL l name d).length capO, .slice adN l.length capN, I d, .bool z]) (fun z W' => W' = W ∧ (z = true → d < rnD most) ∧ (z = false → rnD most ≤ d)) ?_ ?_
  · (repeat first|refine zg ?_|refine zo rfl rfl trivial ?_)
    refine o_split _ _ rfl rfl rfl (fun h1 => ?_) (fun h1 => ?_)
    · have h1 : (d : Int) ≤ most := of_decide_eq_true h1
      (repeat first|refine zo rfl rfl trivial ?_|refine zn ?_)
      exact ⟨_, rfl, rfl, fun h => (by have := of_decide_eq_true h; unfold rnD; omega), fun h => (by have := of_decide_eq_false h; unfold rnD; omega)⟩
    · have h1 : ¬ (d : Int) ≤ most := of_decide_eq_false h1
      (repeat first|refine zo rfl rfl trivial ?_|refine zn ?_)
      exact ⟨_, rfl, rfl, (fun h => by cases h), fun h => (by unfold rnD; omega)⟩
  rintro z e1 W1 ⟨rfl, hz1, hz0⟩
  cases z with
  | true =>
    have hlt := hz1 rfl
    (repeat first|refine zA ?_|refine zC ?_|refine zg ?_|refine zo rfl rfl trivial ?_|refine zn ?_|refine zb ?_|refine zk ?_|refine zt rfl ?_)
    refine r_loop (α := Nat × Option Addr × Nat) [1, 2, 7, 8, 9, 10] (fun g => [S name, I most, .slice g.2.1 (rnL l name d ++ rnC l name d g.1).length g.2.2, .slice adN l.length capN, I d, I g.1])
      (fun g W => g.1 ≤ l.length ∧ Kp [] w1 W ∧ NewS w1 3 W g.2.1 (rnL l name d ++ rnC l name d g.1).length g.2.2 ((rnL l name d ++ rnC l name d g.1).map encJ)) (fun g => l.length - g.1) (0, adO, capO)
      (by rw [show rnL l name d ++ rnC l name d 0 = rnL l name d by simp [rnC]]; rfl) ⟨Nat.zero_le _, kW, by rw [show rnL l name d ++ rnC l name d 0 = rnL l name d by simp [rnC]]; exact hO⟩ ?_
    rintro ⟨i, adI, capI⟩ e2 W2 ⟨hi, kW2, hI⟩
    dsimp only at hi hI ⊢
    (repeat first|refine zA ?_|refine zB ?_|refine zg ?_|refine zo rfl rfl trivial ?_|refine zn ?_)
    refine r_if rfl (fun hc => ?_) (fun hc => ?_)
    · have hc : i < l.length := by omega
      have hsl := srt_len (l := l) (name := name) (d := d) (i := i)
      obtain ⟨b, off, rfl, _, hcell⟩ := (hnew.own.kp kW2 (by simp)).read.at_ (by simp; omega)
      (repeat first|refine zA ?_|refine zC ?_|refine zg ?_|refine zo rfl rfl (by first|exact trivial|(simp only[AllP];omega)) ?_|refine zb ?_|refine zk ?_)
      refine o_loadc (v := S (l.getD i [])) rfl (hcell i (S (l.getD i [])) (by rw [List.getElem?_map]; simp [hc])) rfl rfl rfl rfl ?_
      refine o_call (rdistance_ret name (l.getD i []) _) rfl rfl rfl ?_
      rintro v W3 ⟨rfl, k23⟩
      have hs := rnC_succ l name d i
      (repeat first|refine zo rfl rfl trivial ?_|refine zn ?_)
      refine r_if rfl (fun hd2 => ?_) (fun hd2 => ?_)
      · have hd2 : dist name (l.getD i []) = d := by omega
        rw [if_pos hd2] at hs
        (repeat first|refine zg ?_|refine zo rfl rfl trivial ?_)
        refine o_buildSlice [I (i : Int)] rfl (by simp [Value.oneCell']) rfl (by decide) (by decide) rfl rfl rfl rfl rfl ?_
        intro b9 W5 hb9 hu5
        have kk5 : Kp [] W3 W5 := hu5.kp [] (.inr (by omega))
        have hI5 := hI.own.kp (k23.trans kk5) (by simp)
        refine o_append1 rfl rfl hI5 hu5.blk rfl rfl rfl rfl (by simp only [maxLen]; omega) (by omega) rfl rfl ?_
        intro ad6 cap6 W6 ho6 kk6 hnew6
        have hN6 := hI.push (k23.trans kk5) ho6 kk6 hnew6
        have hl6 : (rnL l name d ++ rnC l name d i).length + 1 = (rnL l name d ++ rnC l name d (i + 1)).length := by rw [hs]; simp; omega
        have hm6 : (rnL l name d ++ rnC l name d i).map encJ ++ [I (i : Int)] = (rnL l name d ++ rnC l name d (i + 1)).map encJ := by rw [hs]; simp [encJ]
        rw [hl6, hm6] at hN6
        have hk6 : Kp [] w1 W6 := hN6.kp
        (repeat first|refine zg ?_|refine zo rfl rfl (by first|exact trivial|(simp only[AllP];omega)) ?_|refine zn ?_)
        exact ⟨(i + 1, ad6, cap6), by rw [← hl6]; rfl, ⟨by dsimp only; omega, hk6, hN6⟩, by dsimp only; omega⟩
      · have hd2 : ¬ dist name (l.getD i []) = d := by omega
        rw [if_neg hd2, List.append_nil] at hs
        (repeat first|refine zg ?_|refine zo rfl rfl (by first|exact trivial|(simp only[AllP];omega)) ?_|refine zn ?_|refine zk ?_)
        exact ⟨(i + 1, adI, capI), by rw [hs]; rfl, ⟨by dsimp only; omega, kW2.trans k23, by rw [hs]; exact ⟨hI.own.kp k23 (by simp), hI.kp.trans k23, hI.new⟩⟩, by dsimp only; omega⟩
    · have hi : i = l.length := by omega
      subst hi
      rw [← rnL_succ] at hI
      (repeat first|refine zg ?_|refine zo rfl rfl (by first|exact trivial|(simp only[AllP];omega)) ?_|refine zn ?_|refine ze rfl ?_)
      exact ⟨(d + 1, adI, capI), by rw [← rnL_succ]; rfl, ⟨by dsimp only; omega, kW2, hI⟩, by dsimp only; omega⟩
  | false =>
    have hge := hz0 rfl
    have hdd : d = rnD most := by omega
    (repeat first|refine zA ?_|refine zg ?_|refine zo rfl rfl trivial ?_|refine zn ?_|refine ze rfl ?_|refine zr ?_|refine zf rfl ?_)
    exact ⟨_, rfl, fin hdd hO⟩
end Go.Vc
/- The order of floats, by a key. -/
namespace Go.Vc
open Go
/-- -1 and 1: the infinities; a number by its count of least units -/
def fk : Ieee.Datum → Int × Int
  | .infinity s => (if s then -1 else 1, 0)
  | .number s m i => (0, Ieee.signed s m (i + 1074).toNat)
  | .nan .. => (0, 0)
def klt (a b : Int × Int) : Prop := a.1 < b.1 ∨ (a.1 = b.1 ∧ a.2 < b.2)
theorem signed_up (s : Bool) (m a c : Nat) : Ieee.signed s m (a + c) = Ieee.signed s m a * (2 ^ c : Nat) := by
  unfold Ieee.signed
  rw [Nat.shiftLeft_eq, Nat.shiftLeft_eq, Nat.pow_add, ← Nat.mul_assoc]
  cases s
  · simp
  · simp only [if_true]
    rw [Int.neg_mul]
    simp
theorem read_place {x : Nat} {s : Bool} {m : Nat} {i : Int} (h : Ieee.double.read x = .number s m i) : -1074 ≤ i := by
  have hl : Ieee.double.leastPlace = -1074 := by decide
  unfold Ieee.Format.read at h
  dsimp only at h
  rw [hl] at h
  split at h
  · cases h; omega
  · split at h
    · cases h; omega
    · split at h <;> cases h
theorem compare_int (a b : Int) : compare a b = if a < b then .lt else if a = b then .eq else .gt := rfl
theorem scale_lt {a b : Int} {c : Nat} : a * (2 ^ c : Nat) < b * (2 ^ c : Nat) ↔ a < b := by
  have hp : (0 : Int) < ((2 ^ c : Nat) : Int) := by have := Nat.two_pow_pos c; omega
  exact ⟨fun h => Int.lt_of_mul_lt_mul_right h (Int.le_of_lt hp), fun h => Int.mul_lt_mul_of_pos_right h hp⟩
theorem scale_eq {a b : Int} {c : Nat} : a * (2 ^ c : Nat) = b * (2 ^ c : Nat) ↔ a = b := by
  have hp : ((2 ^ c : Nat) : Int) ≠ 0 := by have := Nat.two_pow_pos c; omega
  exact ⟨fun h => Int.eq_of_mul_eq_mul_right hp h, fun h => by rw [h]⟩
noncomputable def kord (a b : Int × Int) : Ordering := open Classical in if klt a b then .lt else if a = b then .eq else .gt
theorem order_datum {d e : Ieee.Datum} (hd : d.isNaN = false) (he : e.isNaN = false) (h1 : ∀ s m i, d = .number s m i → -1074 ≤ i) (h2 : ∀ s m i, e = .number s m i → -1074 ≤ i) : d.order e = some (kord (fk d) (fk e)) := by
  cases d with
  | nan s f => cases hd
  | infinity s =>
    cases e with
    | nan s f => cases he
    | infinity t => cases s <;> cases t <;> simp [Ieee.Datum.order, kord, klt, fk] <;> rfl
    | number t n j => cases s <;> simp [Ieee.Datum.order, kord, klt, fk]
  | number s m i =>
    cases e with
    | nan s f => cases he
    | infinity t => cases t <;> simp [Ieee.Datum.order, kord, klt, fk]
    | number t n j =>
      have hi := h1 _ _ _ rfl
      have hj := h2 _ _ _ rfl
      simp only [Ieee.Datum.order, fk, Option.some.injEq]
      obtain ⟨c, hc⟩ : ∃ c : Nat, (c : Int) = min i j + 1074 := ⟨(min i j + 1074).toNat, by omega⟩
      rw [show (i + 1074).toNat = (i - min i j).toNat + c by omega, show (j + 1074).toNat = (j - min i j).toNat + c by omega, signed_up, signed_up, compare_int]
      have e1 := scale_lt (a := Ieee.signed s m (i - min i j).toNat) (b := Ieee.signed t n (j - min i j).toNat) (c := c)
      have e2 := scale_eq (a := Ieee.signed s m (i - min i j).toNat) (b := Ieee.signed t n (j - min i j).toNat) (c := c)
      generalize Ieee.signed s m (i - min i j).toNat = A at e1 e2 ⊢
      generalize Ieee.signed t n (j - min i j).toNat = B at e1 e2 ⊢
      unfold kord
      by_cases g1 : A < B
      · rw [if_pos g1, if_pos (show klt ((0 : Int), A * ((2 ^ c : Nat) : Int)) ((0 : Int), B * ((2 ^ c : Nat) : Int)) from .inr ⟨rfl, e1.2 g1⟩)]
      · have n1 : ¬ klt ((0 : Int), A * ((2 ^ c : Nat) : Int)) ((0 : Int), B * ((2 ^ c : Nat) : Int)) := fun h => by
          rcases h with h | h
          · exact absurd h (Int.lt_irrefl _)
          · exact g1 (e1.1 h.2)
        rw [if_neg n1, if_neg g1]
        by_cases g2 : A = B
        · rw [if_pos g2, if_pos (by rw [g2])]
        · rw [if_neg g2, if_neg (fun h => g2 (e2.1 (congrArg Prod.snd h)))]
/-- a word's key -/
def fkw (x : Nat) : Int × Int := fk (Ieee.double.read x)
theorem order_key {x y : Nat} (hx : isNum x = true) (hy : isNum y = true) : FloatKind.f64.format.order x y = some (kord (fkw x) (fkw y)) := by
  refine order_datum ?_ ?_ (fun s m i h => read_place h) (fun s m i h => read_place h)
  · show (Ieee.double.read x).isNaN = false
    unfold isNum at hx; simpa using hx
  · show (Ieee.double.read y).isNaN = false
    unfold isNum at hy; simpa using hy
theorem klt_irrefl {a : Int × Int} : ¬ klt a a := by unfold klt; omega
theorem kord_eq {a b : Int × Int} : kord a b = .eq ↔ a = b := by
  unfold kord; split
  · rename_i h
    simp only [reduceCtorEq, false_iff]
    rintro rfl
    exact klt_irrefl h
  · split <;> simp [*]
theorem kord_gt {a b : Int × Int} : kord a b = .gt ↔ klt b a := by
  unfold kord; split
  · rename_i h
    simp only [reduceCtorEq, false_iff]
    intro h2
    unfold klt at h h2; omega
  · rename_i h
    split
    · rename_i e
      subst e
      simp only [reduceCtorEq, false_iff]
      exact klt_irrefl
    · rename_i e
      simp only [true_iff]
      unfold klt at *
      have : ¬ (a.1 = b.1 ∧ a.2 = b.2) := fun q => e (Prod.ext q.1 q.2)
      omega
end Go.Vc
