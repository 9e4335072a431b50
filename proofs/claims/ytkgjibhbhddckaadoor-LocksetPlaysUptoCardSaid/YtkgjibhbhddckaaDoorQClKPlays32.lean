/- lockset: LocksetKeeps: the plain law. -/
import Derived.Test.YtkgjibhbhddckaaDoorQClKPlays24
import Derived.Test.YtkgjibhbhddckaaDoorQClKPlays31
import Derived.Test.YtkgjibhbhddckaaDoorQClKPlays30
import Derived.Test.YtkgjibhbhddckaaDoorQClKPlays25
import Derived.Test.YtkgjibhbhddckaaDoorQClKPlays14
import Derived.Deep.Slices
import Derived.ChangeArms
namespace Go.Vc
open Go Go.Proofs
def newLS (s : Shp) : LS := ⟨newC s, fun _ => [], List.replicate s.va.toNat ⟨0, 0, none, none, false, 0⟩⟩
abbrev runL (s : Shp) (l : List Ev) (i : Nat) : LS := runN s (newLS s) l i
theorem mem_inter {a b : List Nat} {m : Nat} : m ∈ inter a b ↔ m ∈ a ∧ m ∈ b := by simp [inter]
theorem accL_kp (v : LV) (e : Ev) (h : List Nat) (a : Int) : (accL v e h a).kp = some (inter (v.kp.getD h) h) := by
  have hw : ∀ u : LV, (warnL u a).kp = u.kp := fun u => by unfold warnL; split <;> rfl
  unfold accL
  dsimp only
  split
  · rfl
  · split
    · split
      · rfl
      · unfold sharedL; rw [hw]
    · unfold sharedL; rw [hw]
/-- what is known of a variable, whatever was touched -/
structure VIn (v : LV) : Prop where
  ph : v.kp.isSome = true → v.ph ≠ 0
  z : v.kp = none → v.ph = 0
  sub : (v.ph = 2 ∨ v.ph = 3) → ∃ K c, v.kp = some K ∧ v.ca = some c ∧ ∀ m ∈ K, m ∈ c
  wa : v.wa = true → v.kp = some []
  ok : VOk v
theorem VIn.acc {v : LV} (h : VIn v) (e : Ev) (hh : List Nat) (a : Int) : VIn (accL v e hh a) := by
  have hok := accL_ok (v := v) (e := e) (h := hh) (a := a) h.ok
  have hk := accL_kp v e hh a
  -- the warning
  have warn : ∀ u : LV, (u.ph = 2 ∨ u.ph = 3) → (∃ K c, u.kp = some K ∧ u.ca = some c ∧ ∀ m ∈ K, m ∈ c) → (u.wa = true → u.kp = some []) → (warnL u a).ph = u.ph ∧ (warnL u a).kp = u.kp ∧ (warnL u a).ca = u.ca ∧ ((warnL u a).wa = true → (warnL u a).kp = some []) := fun u hp hs hw => by
    unfold warnL
    split
    · rename_i hc
      refine ⟨rfl, rfl, rfl, fun _ => ?_⟩
      obtain ⟨K, c, h1, h2, h3⟩ := hs
      have : c = [] := by rw [h2] at hc; exact List.eq_nil_of_length_eq_zero hc.2.1
      subst this
      show u.kp = some []
      rw [h1]
      congr 1
      exact List.eq_nil_iff_forall_not_mem.2 fun m hm => absurd (h3 m hm) (by simp)
    · exact ⟨rfl, rfl, rfl, hw⟩
  have shared : ∀ u : LV, (u.ph = 2 ∨ u.ph = 3) → (∃ K c, u.kp = some (inter K hh) ∧ u.ca = some c ∧ ∀ m ∈ K, m ∈ hh → m ∈ c) → (u.wa = true → u.kp = some []) → VOk (sharedL u e hh a) → VIn (sharedL u e hh a) := fun u hp ⟨K, c, h1, h2, h3⟩ hw hvo => by
    have := warn { u with ca := u.ca.map (inter · hh), ph := if e.k = 2 then 3 else u.ph } (by dsimp only; split; (exact .inr rfl); exact hp) ⟨inter K hh, inter c hh, h1, by dsimp only; rw [h2]; rfl, fun m hm => by
      rw [mem_inter] at hm ⊢
      exact ⟨h3 m hm.1 hm.2, hm.2⟩⟩ hw
    obtain ⟨q1, q2, q3, q4⟩ := this
    have hp2 : (sharedL u e hh a).ph = 2 ∨ (sharedL u e hh a).ph = 3 := by
      unfold sharedL; rw [q1]; dsimp only; split; (exact .inr rfl); exact hp
    refine ⟨fun _ => by omega, fun h0 => ?_, fun _ => ⟨inter K hh, inter c hh, ?_, ?_, fun m hm => ?_⟩, q4, hvo⟩
    · unfold sharedL at h0; rw [q2] at h0; dsimp only at h0; rw [h1] at h0; cases h0
    · unfold sharedL; rw [q2]; exact h1
    · unfold sharedL; rw [q3]; dsimp only; rw [h2]; rfl
    · rw [mem_inter] at hm ⊢
      exact ⟨h3 m hm.1 hm.2, hm.2⟩
  have hwa : v.wa = true → inter (v.kp.getD hh) hh = [] := fun hw => by rw [h.wa hw]; rfl
  unfold accL at hok hk ⊢
  dsimp only at hok hk ⊢
  split
  · rename_i h0
    rw [if_pos h0] at hok hk
    exact ⟨fun _ => by simp, fun hz => (by rw [hk] at hz; cases hz), fun hp => by simp at hp, fun hw => by rw [hk, hwa hw], hok⟩
  · rename_i h0
    rw [if_neg h0] at hok hk
    split
    · rename_i h1
      rw [if_pos h1] at hok hk
      split
      · rename_i ht
        rw [if_pos ht] at hok hk
        exact ⟨fun _ => h0, fun hz => (by rw [hk] at hz; cases hz), fun hp => by dsimp only at hp; omega, fun hw => by rw [hk, hwa hw], hok⟩
      · rename_i ht
        rw [if_neg ht] at hok
        exact shared _ (.inl rfl) ⟨v.kp.getD hh, hh, rfl, rfl, fun m _ hm => hm⟩ (fun hw => by dsimp only; rw [hwa hw]) hok
    · rename_i h1
      rw [if_neg h1] at hok
      have hp : v.ph = 2 ∨ v.ph = 3 := by
        rcases h.ok with q | q | ⟨q, _⟩
        · exact absurd q h0
        · exact absurd q h1
        · exact q
      obtain ⟨K, c, g1, g2, g3⟩ := h.sub hp
      exact shared _ hp ⟨K, c, by dsimp only; rw [g1]; rfl, g2, fun m hm _ => g3 m hm⟩ (fun hw => by dsimp only; rw [hwa hw]) hok
/-- held is owned -/
def HIn (S : LS) : Prop := ∀ t (m : Nat), m ∈ S.H t ↔ S.c.O (m : Int) = some t
theorem HIn.step {s : Shp} {S : LS} {e : Ev} (h : HIn S) (hc : canB s S.c e = true) : HIn (stepL S e s) := by
  intro t m
  show m ∈ eventH S.H e t ↔ (nextC s S.c e).O m = some t
  unfold eventH nextC
  by_cases h5 : e.k = 5
  · rw [if_pos h5, if_pos h5]
    obtain ⟨q1, _, q3⟩ := can_lock hc h5
    dsimp only
    unfold upT
    by_cases hm : (m : Int) = e.o
    · rw [if_pos hm]
      by_cases ht : t = e.t
      · subst ht
        rw [if_pos rfl, mem_withL]
        simp; right; omega
      · rw [if_neg ht, h t m, hm, q3]
        simp; exact fun q => ht q.symm
    · rw [if_neg hm]
      by_cases ht : t = e.t
      · subst ht
        rw [if_pos rfl, mem_withL, h e.t m]
        constructor
        · rintro (q | q)
          · exact q
          · omega
        · exact .inl
      · rw [if_neg ht]; exact h t m
  · rw [if_neg h5, if_neg h5]
    by_cases h6 : e.k = 6
    · rw [if_pos h6, if_pos h6]
      obtain ⟨q1, _, q3⟩ := can_unlock hc h6
      dsimp only
      unfold upT
      by_cases hm : (m : Int) = e.o
      · rw [if_pos hm]
        by_cases ht : t = e.t
        · subst ht
          rw [if_pos rfl, List.mem_filter]
          simp; omega
        · rw [if_neg ht, h t m, hm, q3]
          simp; exact fun q => ht q.symm
      · rw [if_neg hm]
        by_cases ht : t = e.t
        · subst ht
          rw [if_pos rfl, List.mem_filter, h e.t m]
          simp; omega
        · rw [if_neg ht]; exact h t m
    · rw [if_neg h6, if_neg h6]
      have : (if e.k = 7 then { S.c with T := upT S.c.T e.o (some ⟨1, 0, 0⟩), n := S.c.n + 1 }
          else if e.k = 9 then { S.c with T := upT S.c.T e.t (some ⟨2, e.o, (opAt S.c e.o).1⟩), op := S.c.op.set e.o.toNat (arrive s S.c e.o), n := S.c.n + 1 }
          else if e.k = 10 then { S.c with T := upT S.c.T e.t (some ⟨1, 0, 0⟩), n := S.c.n + 1 }
          else if e.k = 11 then { S.c with T := upT S.c.T e.t (some ⟨3, 0, 0⟩), n := S.c.n + 1 }
          else { S.c with n := S.c.n + 1 }).O = S.c.O := by
        repeat' split
        all_goals rfl
      rw [this]; exact h t m
section
variable {s : Shp} {l : List Ev} (ho : okTo s l l.length)
include ho
/-- behind so many events: what is known of each variable -/
structure VRun (s : Shp) (l : List Ev) (i : Nat) (V : List LV) : Prop where
  len : V.length = s.va.toNat
  ok : ∀ v ∈ V, VIn v
  none_ : ∀ (n : Nat) v, V[n]? = some v → v.kp = none → ∀ j, j < i → accB (evA l j) = true → (evA l j).o ≠ (n : Int)
  held : ∀ (n : Nat) v K, V[n]? = some v → v.kp = some K → ∀ m ∈ K, ∀ j, j < i → accB (evA l j) = true → (evA l j).o = (n : Int) → m ∈ (runL s l j).H (evA l j).t
end
end Go.Vc
/- lockset: the law's own small functions. -/
namespace Go.Vc
open Go Go.Proofs
set_option maxRecDepth 10000
variable {w : World}
theorem same23_ret {ad1 ad2 : Option Addr} {l1 l2 : List Int} {c1 c2 : Nat} (h1 : ReadS w ad1 (l1.map I)) (h2 : ReadS w ad2 (l2.map I)) (hl : l1.length ≤ 9223372036854775807) :
    Ret Tryd.prog 12 [.slice ad1 l1.length c1, .slice ad2 l2.length c2] w (fun v w' => v = .bool (decide (l1 = l2)) ∧ Sm w w') := by
  refine enter Tryd.call12 Tryd.func12 rfl rfl rfl rfl ?_
  (repeat first|refine zA ?_|refine zB ?_|refine zg ?_|refine zo rfl rfl trivial ?_|refine zn ?_)
  refine r_ifn (p := (l1.length : Int) = l2.length) rfl (fun hne => ?_) (fun heq => ?_)
  · (repeat first|refine zA ?_|refine zg ?_|refine zo rfl rfl trivial ?_|refine zn ?_|refine zr ?_)
    refine ⟨_, rfl, ?_, Sm.refl _⟩
    rw [decide_eq_false]
    rintro rfl; exact hne rfl
  have hlen : l1.length = l2.length := by omega
  (repeat first|refine zA ?_|refine zB ?_|refine zg ?_|refine zo rfl rfl trivial ?_|refine zn ?_|refine zb ?_|refine zk ?_)
  refine r_loop (α := Nat) [0, 1, 5] (fun i => [.slice ad1 l1.length c1, .slice ad2 l2.length c2, I i]) (fun i w1 => Sm w w1 ∧ i ≤ l1.length ∧ l1.take i = l2.take i) (fun i => l1.length - i) 0 rfl ⟨Sm.refl _, by omega, rfl⟩ ?_
  rintro i e w1 ⟨hs, hi, htk⟩
  (repeat first|refine zA ?_|refine zB ?_|refine zg ?_|refine zo rfl rfl trivial ?_|refine zn ?_)
  refine r_if rfl (fun hc => ?_) (fun hc => ?_)
  · have hlt : i < l1.length := by omega
    have hlt2 : i < l2.length := by omega
    obtain ⟨b1, o1, rfl, _, hc1⟩ := h1.at_ (by simp; omega)
    obtain ⟨b2, o2, rfl, _, hc2⟩ := h2.at_ (by simp; omega)
    have g1 : ∀ w', Sm w w' → w'.cell? ⟨b1, o1 + i, none⟩ = some (I l1[i]) := fun w' hs => by
      rw [← hc1 i (I l1[i]) (by simp [hlt])]; exact World.cell?_of_block (by rw [hs.heap])
    have g2 : ∀ w', Sm w w' → w'.cell? ⟨b2, o2 + i, none⟩ = some (I l2[i]) := fun w' hs => by
      rw [← hc2 i (I l2[i]) (by simp [hlt2])]; exact World.cell?_of_block (by rw [hs.heap])
    (repeat first|refine zC ?_|refine zb ?_|refine zk ?_)
    refine r_seq ?_
    refine r_quietS follows_mixed (by kernel_rfl) ?_
    (repeat refine yo rfl rfl (by first|exact trivial|(simp only[AllP];omega)) ?_)
    refine q_load rfl (fun w2 hs2 => g1 w2 (hs.trans hs2)) rfl rfl rfl rfl ?_
    (repeat refine yo rfl rfl (by first|exact trivial|(simp only[AllP];omega)) ?_)
    refine q_load rfl (fun w2 hs2 => g2 w2 (hs.trans hs2)) rfl rfl rfl rfl ?_
    (repeat first|refine yo rfl rfl trivial ?_|refine yn ?_)
    intro w2 hs2
    have t1 : l1.take (i + 1) = l1.take i ++ [l1[i]] := by rw [List.take_add_one, List.getElem?_eq_getElem hlt]; rfl
    have t2 : l2.take (i + 1) = l2.take i ++ [l2[i]] := by rw [List.take_add_one, List.getElem?_eq_getElem hlt2]; rfl
    refine r_ifn (p := l1[i] = l2[i]) rfl (fun hne => ?_) (fun heq => ?_)
    · (repeat first|refine zA ?_|refine zg ?_|refine zo rfl rfl trivial ?_|refine zn ?_|refine zr ?_)
      refine ⟨_, rfl, ?_, hs.trans hs2⟩
      rw [decide_eq_false]
      rintro rfl; exact hne rfl
    · (repeat first|refine zg ?_|refine zo rfl rfl (by first|exact trivial|(simp only[AllP];omega)) ?_|refine zn ?_|refine zk ?_)
      exact ⟨i + 1, rfl, ⟨hs.trans hs2, by omega, by rw [t1, t2, htk, heq]⟩, by omega⟩
  · have e1 : i = l1.length := by omega
    have e2 : l1 = l2 := by
      have := htk
      rw [e1, List.take_length] at this
      rw [this, hlen, List.take_length]
    (repeat first|refine zA ?_|refine zg ?_|refine zo rfl rfl trivial ?_|refine zn ?_|refine ze rfl ?_|refine zr ?_)
    exact ⟨_, rfl, by rw [decide_eq_true e2], hs⟩
theorem same23_ret2 {ad1 ad2 : Option Addr} {l1 l2 : List Int} {n1 n2 c1 c2 : Nat} (h1 : ReadS w ad1 (l1.map I)) (h2 : ReadS w ad2 (l2.map I)) (e1 : l1.length = n1) (e2 : l2.length = n2) (hl : n1 ≤ 9223372036854775807) :
    Ret Tryd.prog 12 [.slice ad1 n1 c1, .slice ad2 n2 c2] w (fun v w' => v = .bool (decide (l1 = l2)) ∧ Sm w w') := by
  subst e1 e2
  exact same23_ret h1 h2 hl
theorem same23_yes {ad1 ad2 : Option Addr} {l : List Int} {n1 n2 c1 c2 : Nat} (h1 : ReadS w ad1 (l.map I)) (h2 : ReadS w ad2 (l.map I)) (e1 : l.length = n1) (e2 : l.length = n2) (hl : n1 ≤ 9223372036854775807) :
    Ret Tryd.prog 12 [.slice ad1 n1 c1, .slice ad2 n2 c2] w (fun v w' => v = .bool true ∧ Sm w w') :=
  (same23_ret2 h1 h2 e1 e2 hl).mono fun v w' ⟨h, hs⟩ => ⟨by rw [h, decide_eq_true rfl], hs⟩
theorem num23_ret (n : Int) : Ret Tryd.prog 15 [I n] w (fun v w' => v = I n ∧ w' = w) := by
  refine enter Tryd.call15 Tryd.func15 rfl rfl rfl rfl ?_
  (repeat first|refine zA ?_|refine zg ?_|refine zo rfl rfl trivial ?_|refine zn ?_|refine zr ?_)
  exact ⟨_, rfl, rfl, rfl⟩
theorem flagsC_get : ∀ {l : List (Nat × Int)} {i : Nat} {x : Nat × Int}, l[i]? = some x → ∀ j v, (flagC x)[j]? = some v → (flagsC l)[i * 2 + j]? = some v
  | [], i, x, h, _, _, _ => by simp at h
  | y :: r, 0, x, h, j, v, hv => by
    simp at h; subst h
    have e1 : flagsC (y :: r) = flagC y ++ flagsC r := by simp [flagsC]
    rw [e1, Nat.zero_mul, Nat.zero_add, List.getElem?_append_left ((List.getElem?_eq_some_iff.1 hv).1)]
    exact hv
  | y :: r, i + 1, x, h, j, v, hv => by
    have ih := flagsC_get (l := r) (i := i) (x := x) (by simpa using h) j v hv
    have e1 : flagsC (y :: r) = flagC y ++ flagsC r := by simp [flagsC]
    have l3 : (flagC y).length = 2 := rfl
    rw [e1, List.getElem?_append_right (by omega)]
    have e2 : (i + 1) * 2 + j - (flagC y).length = i * 2 + j := by omega
    rw [e2]; exact ih
theorem sameFlags_yes {ad1 ad2 : Option Addr} {l : List (Nat × Int)} {n1 n2 c1 c2 : Nat} (h1 : ReadS w ad1 (flagsC l)) (h2 : ReadS w ad2 (flagsC l)) (e1 : l.length = n1) (e2 : l.length = n2) (hl : n1 ≤ 4611686018427387904) :
    Ret Tryd.prog 21 [.slice ad1 n1 c1, .slice ad2 n2 c2] w (fun v w' => v = .bool true ∧ Sm w w') := by
  subst e1 e2
  refine enter Tryd.call21 Tryd.func21 rfl rfl rfl rfl ?_
  (repeat first|refine zA ?_|refine zB ?_|refine zg ?_|refine zo rfl rfl trivial ?_|refine zn ?_)
  refine r_no rfl (by simp) ?_
  (repeat first|refine zA ?_|refine zB ?_|refine zg ?_|refine zo rfl rfl trivial ?_|refine zn ?_|refine zb ?_|refine zk ?_)
  refine r_loop (α := Nat) [0, 1, 5] (fun i => [.slice ad1 l.length c1, .slice ad2 l.length c2, I i]) (fun i w1 => Sm w w1 ∧ i ≤ l.length) (fun i => l.length - i) 0 rfl ⟨Sm.refl _, by omega⟩ ?_
  rintro i e w1 ⟨hs1, hi⟩
  (repeat first|refine zA ?_|refine zB ?_|refine zg ?_|refine zo rfl rfl trivial ?_|refine zn ?_)
  refine r_if rfl (fun hc => ?_) (fun hc => ?_)
  · have hlt : i < l.length := by omega
    obtain ⟨x, hx⟩ : ∃ x, l[i]? = some x := ⟨_, List.getElem?_eq_getElem hlt⟩
    obtain ⟨b1, o1, rfl, _, g1⟩ := h1.at_ (by rw [flagsC_len]; omega)
    obtain ⟨b2, o2, rfl, _, g2⟩ := h2.at_ (by rw [flagsC_len]; omega)
    have key : ∀ (b o : Nat), (∀ (i : Nat) (v : Value), (flagsC l)[i]? = some v → w.cell? ⟨b, o + i, none⟩ = some v) → ∀ w', Sm w1 w' → ∀ j v, (flagC x)[j]? = some v → w'.cell? ⟨b, o + (i : Int).toNat * 2 + j, none⟩ = some v := fun b o g w' hs' j v hv => by
      have := g _ _ (flagsC_get hx j v hv)
      rw [Int.toNat_natCast, Nat.add_assoc, ← this]
      exact World.cell?_of_block (by rw [hs'.heap, hs1.heap])
    (repeat first|refine zC ?_|refine zb ?_|refine zk ?_)
    refine r_seq ?_
    refine r_quietS follows_mixed (by kernel_rfl) ?_
    (repeat refine yo rfl rfl (by first|exact trivial|(simp only[AllP];omega)) ?_)
    refine q_loadA (vs := flagC x) rfl (key b1 o1 g1) rfl rfl rfl rfl rfl rfl ?_
    (repeat refine yo rfl rfl (by first|exact trivial|(simp only[AllP];omega)) ?_)
    refine q_loadA (vs := flagC x) rfl (key b2 o2 g2) rfl rfl rfl rfl rfl rfl ?_
    refine q_neqS [(x.1 : Int), x.2] [(x.1 : Int), x.2] rfl rfl (by kernel_rfl) (by kernel_rfl) (by kernel_rfl) (by kernel_rfl) (by kernel_rfl) (by kernel_rfl) rfl rfl ?_
    (repeat refine yn ?_)
    intro w2 hs2
    refine r_no rfl (by rw [eqInts_iff.2 rfl]; rfl) ?_
    (repeat first|refine zg ?_|refine zo rfl rfl (by first|exact trivial|(simp only[AllP];omega)) ?_|refine zn ?_|refine zk ?_)
    exact ⟨i + 1, rfl, ⟨hs1.trans hs2, by omega⟩, by omega⟩
  · (repeat first|refine zA ?_|refine zg ?_|refine zo rfl rfl trivial ?_|refine zn ?_|refine ze rfl ?_|refine zr ?_)
    exact ⟨_, rfl, rfl, hs1⟩
end Go.Vc
/- lockset: lives. -/
namespace Go.Vc
open Go Go.Proofs
set_option maxRecDepth 10000
variable {w : World}
def sLv : Shp := ⟨2, 1, 0, 1, []⟩
def SLv0 : LS := ⟨newC sLv, fun _ => [], [⟨0, 0, none, none, false, 0⟩]⟩
def evLv : List Ev := [⟨7, 0, 1⟩, ⟨5, 0, 0⟩, ⟨2, 0, 0⟩]
theorem SLv_can : ∀ j e, j < 3 → evLv[j]? = some e → canB sLv (runN sLv SLv0 evLv j).c e = true := by
  intro j e hj he
  match j, hj with
  | 0, _ => simp [evLv] at he; subst he; decide
  | 1, _ => simp [evLv] at he; subst he; decide
  | 2, _ => simp [evLv] at he; subst he; decide
theorem SLv_3 : (runN sLv SLv0 evLv 3).V = [⟨1, 0, some [0], none, false, 0⟩] := by rfl
def SLv4 : LS := stepL (runN sLv SLv0 evLv 3) ⟨2, 1, 0⟩ sLv
theorem SLv4_can : canB sLv (runN sLv SLv0 evLv 3).c ⟨2, 1, 0⟩ = true := by decide
theorem SLv4_V : SLv4.V = [⟨3, 0, some [], some [], true, 3⟩] := by rfl
theorem SLv0_ok : SLv0.VOk := by
  intro v hv
  simp [SLv0] at hv
  subst hv
  exact .inl rfl
theorem newKG_KS {kp mh vb : Nat} {ck : CkG} (h : KAt w (newKG kp ck mh vb sLv.va.toNat) sLv (newC sLv)) : KS w (newKG kp ck mh vb sLv.va.toNat) sLv SLv0 := ⟨h, fun t => rfl, rfl⟩
/-- one variable: what it is -/
theorem one_var {g : KG} {v : LV} (h : g.vars.map varM = [v]) : ∃ x, varAt g 0 = some x ∧ varM x = v := by
  match hg : g.vars, h with
  | [x], h => exact ⟨x, by unfold varAt; rw [hg]; rfl, by simpa using h⟩
theorem kp_l {x : VarG} {v : LV} (h : varM x = v) : (x.kp.map SG.l) = v.kp ∧ (x.ca.map SG.l) = v.ca := by subst h; exact ⟨rfl, rfl⟩
theorem oL_of {o : Option SG} {l : List Nat} (h : o.map SG.l = some l) : oL o = l ∧ o.isSome = true := by
  cases o with
  | none => cases h
  | some y => simp at h; exact ⟨h, rfl⟩
set_option maxHeartbeats 6400000 in
theorem lives23_ret (hT : TabW w) : Ret Tryd.prog 7 [] w (fun v w' => v = .bool true ∧ Kp [] w w') := by
  refine enter Tryd.call7 Tryd.func7 rfl rfl rfl rfl ?_
  (repeat first|refine zA ?_|refine zg ?_|refine zo rfl rfl trivial ?_|refine zn ?_)
  refine o_build [I 2, I 1, I 0, I 1, .slice none 0 0] rfl rfl rfl rfl rfl rfl rfl ?_
  refine o_call (kNew_ret (s := sLv) (pad := none) (cap := 0) hT rfl (by decide)) rfl rfl rfl ?_
  rintro v w1 (⟨hs, _⟩ | ⟨_, kp, ck, mh, vb, rfl, hk, k1, hn1⟩)
  · exact absurd hs (by decide)
  have h1 := newKG_KS hk
  have hgk : (newKG kp ck mh vb sLv.va.toNat).kp = kp := rfl
  generalize newKG kp ck mh vb sLv.va.toNat = g at h1 hn1 hk hgk
  subst hgk
  (repeat first|refine zA ?_|refine zB ?_|refine zg ?_|refine zo rfl rfl trivial ?_|refine zn ?_|refine zU rfl rfl rfl ?_)
  refine o_call (num23_ret _) rfl rfl rfl ?_
  rintro v wx ⟨rfl, rfl⟩
  (repeat first|refine zA ?_|refine zg ?_|refine zo rfl rfl trivial ?_|refine zn ?_|refine zk ?_|refine zf rfl ?_)
  refine o_build [I 7, I 0, I 1] rfl rfl rfl rfl rfl rfl rfl ?_
  refine o_build [I 5, I 0, I 0] rfl rfl rfl rfl rfl rfl rfl ?_
  refine o_build [I 2, I 0, I 0] rfl rfl rfl rfl rfl rfl rfl ?_
  refine o_buildSliceN (evsC evLv) rfl rfl rfl (by kernel_rfl) rfl rfl rfl rfl ?_
  intro be w2 hbe hu2
  have k2 : Kp [] wx w2 := hu2.kp [] (.inr (by omega))
  have h2 := h1.kp0 k2
  have hbe2 : ∀ b, b ∈ blkOf (some (⟨be, 0, none⟩ : Addr)) → ¬ g.In b := fun b hb hin => by
    simp [blkOf] at hb
    obtain ⟨i, hi⟩ := hin
    have := h1.at_.lt i b hi; omega
  refine o_call (Events_S h2 SLv0_ok (by decide) (l := evLv) (ReadS.blk hu2.blk) hbe2 (by decide)) rfl rfl rfl ?_
  rintro v w3 ⟨k, g3, hk3, rfl, h3, t3, hcan3, hno3⟩
  obtain rfl : k = 3 := by
    have hk3' : k ≤ 3 := hk3
    by_cases h3k : k < 3
    · exfalso
      obtain ⟨e, he⟩ : ∃ e, evLv[k]? = some e := ⟨_, List.getElem?_eq_getElem (show k < evLv.length from h3k)⟩
      have a1 := hno3 e he
      rw [SLv_can k e h3k he] at a1; cases a1
    · omega
  obtain ⟨x3, hx3, hm3⟩ := one_var (h3.V.trans SLv_3)
  obtain ⟨hl3, hs3⟩ := oL_of (kp_l hm3).1
  (repeat first|refine zA ?_|refine zg ?_|refine zo rfl rfl trivial ?_|refine zn ?_)
  have hK3 := kKeeps_ret h3.at_ 0
  rw [hx3] at hK3
  simp only [Option.bind_some, hl3, hs3] at hK3
  have ek3 : g.kp = g3.kp := t3.kp.symm
  rw [ek3]
  refine o_call hK3 rfl rfl rfl ?_
  rintro v w4 ⟨a4, c4, rfl, n4⟩
  have h4 := h3.kp0 n4.kp
  (repeat first|refine zA ?_|refine zg ?_|refine zo rfl rfl trivial ?_|refine zn ?_)
  refine o_build [I 2, I 1, I 0] rfl rfl rfl rfl rfl rfl rfl ?_
  refine o_call (Event_S h4 (runN_ok SLv0_ok 3 (by decide)) (by decide) ⟨2, 1, 0⟩) rfl rfl rfl ?_
  rintro v w5 (⟨_, rfl, g5, h5, t5⟩ | ⟨hbad, _⟩)
  rotate_left
  · rw [SLv4_can] at hbad; cases hbad
  have h5' : KS w5 g5 sLv SLv4 := h5
  obtain ⟨x5, hx5, hm5⟩ := one_var (h5'.V.trans SLv4_V)
  obtain ⟨hl5, hs5⟩ := oL_of (kp_l hm5).1
  have ek5 : g3.kp = g5.kp := t5.kp.symm
  rw [ek5]
  (repeat first|refine zA ?_|refine zg ?_|refine zo rfl rfl trivial ?_|refine zn ?_)
  have hK5 := kKeeps_ret h5'.at_ 0
  rw [hx5] at hK5
  simp only [Option.bind_some, hl5, hs5] at hK5
  refine o_call hK5 rfl rfl rfl ?_
  rintro v w6 ⟨a6, c6, rfl, n6⟩
  have h6 := h5'.kp0 n6.kp
  (repeat first|refine zA ?_|refine zg ?_|refine zo rfl rfl trivial ?_|refine zn ?_)
  have hW := kWarned_ret h6.at_
  rw [h6.V, SLv4_V] at hW
  refine o_call hW rfl rfl rfl ?_
  rintro v w7 ⟨a7, c7, rfl, ho7, k7, hn7⟩
  (repeat first|refine zA ?_|refine zg ?_|refine zo rfl rfl trivial ?_|refine zn ?_|refine zT rfl rfl rfl ?_)
  refine o_call (num23_ret _) rfl rfl rfl ?_
  rintro v w8 ⟨rfl, rfl⟩
  (repeat first|refine zo rfl rfl trivial ?_|refine zT rfl rfl rfl ?_)
  refine o_buildSlice [I 0] rfl (by simp [Value.oneCell']) rfl (by decide) (by decide) rfl rfl rfl rfl rfl ?_
  intro b9 w9 hb9 hu9
  have k9 : Kp [] w8 w9 := hu9.kp [] (.inr (by omega))
  have q4 : ReadS w5 a4 ([0].map encI) := n4.read.kq t5.kq (fun b hb ⟨i, hi⟩ => by have := n4.new b hb; have := h3.at_.lt i b hi; omega)
  have q9 := ((q4.kp n6.kp (by simp)).kp k7 (by simp)).kp k9 (by simp)
  rw [map_encI] at q9
  refine o_call (same23_yes (l := [0]) q9 (ReadS.blk hu9.blk) (by simp) rfl (by decide)) rfl rfl rfl ?_
  rintro v w10 ⟨rfl, s10⟩
  (repeat first|refine zo rfl rfl trivial ?_|refine zT rfl rfl rfl ?_)
  refine o_call (num23_ret _) rfl rfl rfl ?_
  rintro v w11 ⟨rfl, rfl⟩
  (repeat first|refine zo rfl rfl trivial ?_|refine zT rfl rfl rfl ?_)
  refine o_build [I 0, I 3] rfl rfl rfl rfl rfl rfl rfl ?_
  refine o_buildSliceN [I 0, I 3] rfl rfl rfl (by kernel_rfl) rfl rfl rfl rfl ?_
  intro b12 w12 hb12 hu12
  have k12 : Kp [] w11 w12 := hu12.kp [] (.inr (by omega))
  have q7 : ReadS w8 a7 (flagsC [(0, 3)]) := ho7.readN
  have q12 := ((q7.kp k9 (by simp)).kp (s10.kp []) (by simp)).kp k12 (by simp)
  refine o_call (sameFlags_yes (l := [(0, 3)]) q12 (ReadS.blk hu12.blk) rfl rfl (by decide)) rfl rfl rfl ?_
  rintro v w13 ⟨rfl, s13⟩
  (repeat first|refine zo rfl rfl trivial ?_|refine zn ?_|refine zr ?_)
  refine ⟨_, rfl, rfl, ?_⟩
  have z1 := k1.size
  have z2 := k2.size
  have p3 : Kp [] w w3 := t3.kq.kp0 (k1.trans k2) hn1
  have hn3 : ∀ b, g3.In b → w.heap.size ≤ b := fun b hb => by
    rcases t3.new b hb with h9 | h9
    · exact hn1 b h9
    · omega
  have p5 : Kp [] w w5 := t5.kq.kp0 (p3.trans n4.kp) hn3
  exact ((((((p5.trans n6.kp).trans k7).trans k9).trans (s10.kp [])).trans k12).trans (s13.kp []))
end Go.Vc
/- What came in: slices of structs, read cell by cell. -/
namespace Go.Vc
open Go
variable {H : Type} {enc : TypeId × Value → H} {P : Program} {w : World} {base : Nat} {spare : Nat → Bool} {held : Bool}

/-- one cell that is an integer -/
theorem trod_int {t : TypeId} {k : IntKind} {fuel : Nat} {v : Value} {x : DataW H × List MemPlace} (ht : P.underlying t = some (.int k)) (h : DataW.trod enc P w base spare held fuel t [v] = some x) : ∃ z, v = .int k z ∧ (Lit.int k z).wf = true := by
  cases fuel with
  | zero => simp [DataW.trod] at h
  | succ n =>
    unfold DataW.trod at h
    rw [ht] at h
    cases v <;> simp at h
    obtain ⟨⟨rfl, hw⟩, _⟩ := h
    exact ⟨_, rfl, hw⟩
/-- a slice of structs of m cells: its elements' cells; each element has its own reading -/
theorem trod_recs {t e : TypeId} {m : Nat} {fuel : Nat} {a : Option Addr} {len cap : Nat} {x : DataW H × List MemPlace} (ht : P.underlying t = some (.slice e)) (hm : P.cellsOf e = m) (h : DataW.trod enc P w base spare held fuel t [.slice a len cap] = some x) :
    ∃ (n : Nat) (Cs : List (List Value)) (D : List (DataW H)), Cs.length = len ∧ D.length = len ∧ ReadS w a Cs.flatten ∧ (∀ (i : Nat) (cs : List Value), Cs[i]? = some cs → cs.length = m ∧ ∃ (d : DataW H) (p : List MemPlace), D[i]? = some d ∧ DataW.trod enc P w base spare held n e cs = some (d, p)) ∧ (x.1 = .nil ∧ D = [] ∨ ∃ sp, x.1 = .slice D sp) ∧ len ≤ cap ∧ cap ≤ maxLen := by
  rcases Go.Deep.open_slice ht h with ⟨hc, rfl⟩ | ⟨a', len', cap', mm, n, D, Pl, hc, _, hl, hcap, hmm, rfl, hx⟩
  · simp at hc
    obtain ⟨rfl, rfl, rfl⟩ := hc
    exact ⟨0, [], [], rfl, rfl, rfl, fun i cs h => by simp at h, .inl ⟨rfl, rfl⟩, Nat.le_refl _, Nat.zero_le _⟩
  · simp at hc
    obtain ⟨rfl, rfl, rfl⟩ := hc
    have hle : len ≤ mm := by rw [hmm]; split <;> omega
    rw [hm] at hx
    have key : ∀ k, k ≤ len → ∃ Cs : List (List Value), Cs.length = k ∧ ReadS w (some a') Cs.flatten ∧ Cs.flatten.length = k * m ∧ ∀ (i : Nat) (cs : List Value), Cs[i]? = some cs → cs.length = m ∧ DataW.trod enc P w base spare held n e cs = some (D i, Pl i) := by
      intro k
      induction k with
      | zero => intro _; exact ⟨[], rfl, (fun i v h => by simp at h), by simp, fun i cs h => by simp at h⟩
      | succ k ih =>
        intro hk
        obtain ⟨Cs, h1, h2, h3, h4⟩ := ih (by omega)
        obtain ⟨cs', g1, g2⟩ := hx k (by omega)
        obtain ⟨_, g3, g4⟩ := World.cells?_some g1
        refine ⟨Cs ++ [cs'], by simp [h1], fun i v hv => ?_, ?_, fun i cs hcs => ?_⟩
        · rw [List.flatten_append] at hv
          by_cases hi : i < k * m
          · rw [List.getElem?_append_left (by omega)] at hv
            exact h2 i v hv
          · rw [List.getElem?_append_right (by omega), h3] at hv
            simp at hv
            have hlt : i - k * m < m := by have := (List.getElem?_eq_some_iff.1 hv).1; omega
            have := g4 _ hlt
            rw [hv] at this
            rw [← this]
            have hi' : k * m ≤ i := by omega
            have ea : (a'.add (k * m)).add (i - k * m) = a'.add i := by
              generalize k * m = z at hi'
              unfold Addr.add
              by_cases h0 : z = 0
              · subst h0; simp
              · by_cases h1 : i - z = 0
                · have : i = z := by omega
                  subst this; simp
                · rw [if_neg h0, if_neg h1, if_neg (by omega)]
                  simp; omega
            rw [ea]
        · rw [List.flatten_append, List.length_append, h3]; simp [g3, Nat.succ_mul]
        · by_cases hi : i < k
          · rw [List.getElem?_append_left (by omega)] at hcs
            exact h4 i cs hcs
          · have hik : i = k := by
              have := (List.getElem?_eq_some_iff.1 hcs).1
              simp [h1] at this; omega
            subst hik
            rw [List.getElem?_append_right (by omega), h1] at hcs
            simp at hcs; subst hcs
            exact ⟨g3, g2⟩
    obtain ⟨Cs, h1, h2, h3, h4⟩ := key len (Nat.le_refl _)
    refine ⟨n, Cs, (List.range len).map D, h1, by simp, h2, fun i cs hcs => ?_, .inr ⟨_, rfl⟩, hl, hcap⟩
    have hi : i < len := by rw [← h1]; exact (List.getElem?_eq_some_iff.1 hcs).1
    obtain ⟨g1, g2⟩ := h4 i cs hcs
    exact ⟨g1, D i, Pl i, by simp [hi], g2⟩
end Go.Vc
