/- The closest name, plain. -/
import Derived.Test.YtghdpibdidfpbaaDoorQClNPlays23
import Derived.Test.YtghdpibdidfpbaaDoorQClNPlays24
import Derived.Test.YtghdpibdidfpbaaDoorQClNPlays15
import Derived.Shelf.SlSortCmp.NoneTotal
import Derived.Test.YtghdpibdidfpbaaDoorProg
namespace Go.Vc
open Go Go.Proofs
theorem like_num (s t : Str) : isNum (like s t) = true := by
  unfold like isNum
  rw [likeF_num _ _ (dist_le' s t) (by have h1 : (s.take 256).length ≤ 256 := List.length_take_le _ _; have h2 : (t.take 256).length ≤ 256 := List.length_take_le _ _; omega)]
  rfl
def feq (x y : Nat) : Bool := FloatKind.f64.format.order x y == some .eq
theorem fgt_iff {x y : Nat} (hx : isNum x = true) (hy : isNum y = true) : fgt x y = true ↔ klt (fkw y) (fkw x) := by
  unfold fgt
  rw [order_key hx hy]
  rw [← kord_gt]
  simp
theorem feq_iff {x y : Nat} (hx : isNum x = true) (hy : isNum y = true) : feq x y = true ↔ fkw x = fkw y := by
  unfold feq
  rw [order_key hx hy]
  rw [← kord_eq]
  simp
/-- what is known of the best one among these -/
structure CloP (name : Str) (least : Nat) (pre : List (Nat × Str)) (c : Nat × Bool × Nat) : Prop where
  none : c.2.1 = false → c.1 = 0 ∧ ∀ x ∈ pre, fge (like name x.2) least = false
  some : c.2.1 = true → ∃ t, (c.1, t) ∈ pre ∧ c.2.2 = like name t ∧ fge (like name t) least = true ∧ ∀ x ∈ pre, fge (like name x.2) least = true → fgt (like name x.2) (like name t) = false ∧ (feq (like name x.2) (like name t) = true → c.1 ≤ x.1)
theorem cloP (name : Str) (least : Nat) : ∀ (post pre : List (Nat × Str)) (c : Nat × Bool × Nat), (pre ++ post).Pairwise (fun a b => a.1 < b.1) → CloP name least pre c → CloP name least (pre ++ post) (post.foldl (cloS name least) c)
  | [], pre, c, _, h => by simpa using h
  | x :: r, pre, c, hp, h => by
    have key : CloP name least (pre ++ [x]) (cloS name least c x) := by
      have hbef : ∀ y ∈ pre, y.1 < x.1 := fun y hy => (List.pairwise_append.1 hp).2.2 y hy x (by simp)
      have nx := like_num name x.2
      unfold cloS
      cases hg : fge (like name x.2) least with
      | false =>
        simp only [Bool.false_and, Bool.false_eq_true, if_false]
        refine ⟨fun h0 => ⟨(h.none h0).1, fun y hy => ?_⟩, fun h1 => ?_⟩
        · rcases List.mem_append.1 hy with hy | hy
          · exact (h.none h0).2 y hy
          · simp at hy; subst hy; exact hg
        · obtain ⟨t, m1, m2, m3, m4⟩ := h.some h1
          refine ⟨t, by simp [m1], m2, m3, fun y hy hfy => ?_⟩
          rcases List.mem_append.1 hy with hy | hy
          · exact m4 y hy hfy
          · simp at hy; subst hy; rw [hg] at hfy; cases hfy
      | true =>
        cases hf : c.2.1 with
        | false =>
          simp only [Bool.not_false, Bool.true_or, Bool.and_self, if_true]
          refine ⟨(fun h0 => by cases h0), fun _ => ⟨x.2, by simp, rfl, hg, fun y hy hfy => ?_⟩⟩
          rcases List.mem_append.1 hy with hy | hy
          · rw [(h.none hf).2 y hy] at hfy; cases hfy
          · simp at hy; subst hy
            refine ⟨?_, fun _ => Nat.le_refl _⟩
            rw [Bool.eq_false_iff, ne_eq, fgt_iff nx nx]
            exact klt_irrefl
        | true =>
          obtain ⟨t, m1, m2, m3, m4⟩ := h.some hf
          have nt := like_num name t
          rw [m2]
          cases hgt : fgt (like name x.2) (like name t) with
          | true =>
            simp only [Bool.not_true, Bool.false_or, Bool.and_self, if_true]
            refine ⟨(fun h0 => by cases h0), fun _ => ⟨x.2, by simp, rfl, hg, fun y hy hfy => ?_⟩⟩
            have hk := (fgt_iff nx nt).1 hgt
            rcases List.mem_append.1 hy with hy | hy
            · have hm := (m4 y hy hfy).1
              have ny := like_num name y.2
              rw [Bool.eq_false_iff, ne_eq, fgt_iff ny nt] at hm
              refine ⟨?_, fun he => ?_⟩
              · rw [Bool.eq_false_iff, ne_eq, fgt_iff ny nx]
                unfold klt at *; omega
              · rw [feq_iff ny nx] at he
                rw [he] at hm
                exact absurd hk hm
            · simp at hy; subst hy
              refine ⟨?_, fun _ => Nat.le_refl _⟩
              rw [Bool.eq_false_iff, ne_eq, fgt_iff nx nx]
              exact klt_irrefl
          | false =>
            simp only [Bool.not_true, Bool.false_or, Bool.and_false, Bool.false_eq_true, if_false]
            refine ⟨(fun h0 => by rw [hf] at h0; cases h0), fun _ => ⟨t, by simp [m1], m2, m3, fun y hy hfy => ?_⟩⟩
            rcases List.mem_append.1 hy with hy | hy
            · exact m4 y hy hfy
            · simp at hy; subst hy
              exact ⟨hgt, fun _ => Nat.le_of_lt (hbef _ m1)⟩
    have := cloP name least r (pre ++ [x]) (cloS name least c x) (by simpa using hp) key
    simpa using this
theorem nums_pw (l : List Str) : (nums l).Pairwise (fun a b => a.1 < b.1) := List.pairwise_map.1 nums_inc
theorem cloL_spec (name : Str) (least : Nat) (l : List Str) : CloP name least (nums l) (cloL name least (nums l)) :=
  cloP name least (nums l) [] (0, false, 0) (by simpa using nums_pw l) ⟨fun _ => ⟨rfl, by simp⟩, (fun h => by cases h)⟩
end Go.Vc
/- The document's Closest. -/
namespace Go.Vc
open Go Go.Proofs
set_option maxRecDepth 10000
variable {w : World} {q : Nat} {l : List Str} {ad : Option Addr} {cap : Nat}
theorem nums_take {l : List Str} {i : Nat} (h : i < l.length) : (nums l).take (i + 1) = (nums l).take i ++ [(i, l.getD i [])] := by
  rw [List.take_add_one]
  congr 1
  unfold nums
  simp [h]
def clB (c : Nat × Bool × Nat) : Int := if c.2.1 then (c.1 : Int) else -1
/-- the best one's likeness is what is kept -/
theorem cloL_lik (name : Str) (least : Nat) {l : List Str} {i : Nat} (hi : i ≤ l.length) (h : (cloL name least ((nums l).take i)).2.1 = true) :
    (cloL name least ((nums l).take i)).1 < i ∧ (cloL name least ((nums l).take i)).2.2 = like name (l.getD (cloL name least ((nums l).take i)).1 []) := by
  have hp : ((nums l).take i).Pairwise (fun a b => a.1 < b.1) := (nums_pw l).sublist (List.take_sublist _ _)
  have hc := cloP name least ((nums l).take i) [] (0, false, 0) (by simpa using hp) ⟨fun _ => ⟨rfl, by simp⟩, (fun h => by cases h)⟩
  obtain ⟨t, m1, m2, _, _⟩ := hc.some h
  have m1 : ((cloL name least ((nums l).take i)).1, t) ∈ (nums l).take i := m1
  have m2 : (cloL name least ((nums l).take i)).2.2 = like name t := m2
  have hm := List.mem_of_mem_take m1
  obtain ⟨h1, h2⟩ := nums_mem hm
  dsimp only at h2
  clear hc h
  generalize cloL name least ((nums l).take i) = c at m1 m2 hm h1 h2 ⊢
  refine ⟨?_, by rw [m2, h2]⟩
  obtain ⟨j, hj⟩ := List.getElem?_of_mem m1
  have hjl := (List.getElem?_eq_some_iff.1 hj).1
  simp only [List.length_take, nums_length] at hjl
  rw [List.getElem?_take_of_lt (by omega)] at hj
  unfold nums at hj
  rw [List.getElem?_map, List.getElem?_range (by omega)] at hj
  simp at hj
  omega
set_option maxHeartbeats 3200000 in
theorem rclosest_ret {pv : Value} {name : Str} {least : Nat} (hl : l.length ≤ 131072) (hp : ∃ p, pv = .pointer p) (hN : Ret Tryd.prog 29 [pv] w (fun v w' => ∃ ad' cap', v = .slice ad' l.length cap' ∧ NewS w 9 w' ad' l.length cap' (l.map S))) :
    Ret Tryd.prog 35 [pv, S name, .float .f64 least] w (fun v w' => v = .tuple #[I (cloL name least (nums l)).1, .bool (cloL name least (nums l)).2.1] ∧ Kp [] w w') := by
  obtain ⟨p, rfl⟩ := hp
  refine enter Tryd.call35 Tryd.func35 rfl rfl rfl rfl ?_
  (repeat first|refine zA ?_|refine zg ?_|refine zo rfl rfl trivial ?_|refine zn ?_)
  refine o_call hN rfl rfl rfl ?_
  rintro v w1 ⟨adN, capN, rfl, hnew⟩
  (repeat first|refine zA ?_|refine zB ?_|refine zg ?_|refine zo rfl rfl trivial ?_|refine zn ?_|refine zb ?_)
  refine r_loop (α := Nat) [1, 2, 8, 9, 10] (fun i => [S name, .float .f64 least, .slice adN l.length capN, I (clB (cloL name least ((nums l).take i))), I i])
    (fun i W => i ≤ l.length ∧ Kp [] w1 W) (fun i => l.length - i) 0 rfl ⟨Nat.zero_le _, Kp.refl _ _⟩ ?_
  rintro i e W ⟨hi, kW⟩
  (repeat first|refine zA ?_|refine zB ?_|refine zg ?_|refine zo rfl rfl trivial ?_|refine zn ?_)
  refine r_if rfl (fun hc => ?_) (fun hc => ?_)
  · have hc : i < l.length := by omega
    have hlik := cloL_lik name least (l := l) (i := i) (by omega)
    have hstep : cloL name least ((nums l).take (i + 1)) = cloS name least (cloL name least ((nums l).take i)) (i, l.getD i []) := by rw [nums_take hc, cloL_snoc]
    rw [show (clB (cloL name least ((nums l).take i))) = clB (cloL name least ((nums l).take i)) from rfl]
    generalize cloL name least ((nums l).take i) = c at hlik hstep ⊢
    obtain ⟨best, found, mx⟩ := c
    dsimp only at hlik
    obtain ⟨b, off, rfl, _, _⟩ := (hnew.own.kp kW (by simp)).read.at_ (by simp; omega)
    have cell : ∀ {j : Nat}, j < l.length → ∀ W', Kp [] w1 W' → W'.cell? ⟨b, off + j, none⟩ = some (S (l.getD j [])) := fun {j} hj W' hk => by
      obtain ⟨b', off', he, _, hcc⟩ := (hnew.own.kp hk (by simp)).read.at_ (by simp; omega)
      cases he
      exact hcc j (S (l.getD j [])) (by rw [List.getElem?_map]; simp [hj])
    have kd0 := (Sm.drew W).kp []
    unfold cloS at hstep
    dsimp only at hstep
    have next : ∀ (W' : World) (z : Bool), Kp [] w1 W' → (if fge (like name (l.getD i [])) least && (!found || fgt (like name (l.getD i [])) mx) then ((i, true, like name (l.getD i [])) : Nat × Bool × Nat) else (best, found, mx)) = (if z then (i, true, like name (l.getD i [])) else (best, found, mx)) →
        I (clB (cloL name least ((nums l).take (i + 1)))) = if z then I (i : Nat) else I (clB (best, found, mx)) := fun W' z hk hz => by
      rw [hstep, hz]
      cases z <;> rfl
    (repeat first|refine zC ?_|refine zb ?_|refine zk ?_)
    refine r_seq ?_
    refine r_cut (α := Bool) [1, 2, 8, 9, 10, 45] (fun z => [S name, .float .f64 least, .slice (some ⟨b, off, none⟩) l.length capN, I (clB (best, found, mx)), I i, .bool z]) (fun z W' => Kp [] w1 W' ∧ (fge (like name (l.getD i [])) least && (!found || fgt (like name (l.getD i [])) mx)) = z) ?_ ?_
    · refine r_mix (fun W' => Kp [] W W') [(0, false), (1, false), (2, false), (3, false), (4, false), (6, false), (5, true), (7, false), (8, false), (9, false), (10, false), (11, false), (12, false), (13, false), (14, false), (15, false), (16, false), (18, false), (19, false), (20, false), (21, false), (22, false), (17, true), (23, true), (24, false), (25, false), (26, false)] follows_mixed (by kernel_rfl) (by kernel_rfl) (by kernel_rfl) ((Sm.drew _).kp _) ?_
      generalize ({ W with drawn := W.drawn + 1 } : World) = wd at kd0 ⊢
      (repeat refine xo rfl rfl (by first|exact trivial|(simp only[AllP];omega)) ?_)
      refine x_load (b := b) (off := off + i) (v := S (l.getD i [])) rfl rfl (fun W' h' => cell hc W' (kW.trans h')) rfl rfl rfl rfl ?_
      (repeat refine xo rfl rfl trivial ?_)
      refine x_act rfl ?_
      refine o_call (rlikeness_ret name (l.getD i []) _) rfl rfl rfl ?_
      rintro v W3 ⟨rfl, k3⟩
      refine o_nil ⟨.inr (kd0.trans k3), ?_⟩
      (repeat refine xo rfl rfl trivial ?_)
      cases hge : fge (like name (l.getD i [])) least with
      | false =>
        refine x_is false rfl 8 true rfl rfl rfl hge ?_
        (repeat first|refine xo rfl rfl trivial ?_|refine x_know rfl _ _ none rfl rfl rfl ?_)
        refine x_passes rfl rfl rfl (fun _ => kd0.trans k3) ?_
        refine x_passes rfl rfl rfl (fun _ => kd0.trans k3) ?_
        (repeat first|refine xo rfl rfl trivial ?_|refine xn ?_)
        exact ⟨false, rfl, kW.trans (kd0.trans k3), rfl⟩
      | true =>
        refine x_is true rfl 8 true rfl rfl rfl hge ?_
        cases found with
        | false =>
          have e1 : clB (best, false, mx) = -1 := rfl
          rw [e1]
          (repeat first|refine xo rfl rfl trivial ?_|refine x_know rfl _ _ (some true) rfl rfl rfl ?_)
          refine x_passes rfl rfl rfl (fun _ => kd0.trans k3) ?_
          refine x_passes rfl rfl rfl (fun _ => kd0.trans k3) ?_
          (repeat first|refine xo rfl rfl trivial ?_|refine xn ?_)
          exact ⟨true, rfl, kW.trans (kd0.trans k3), rfl⟩
        | true =>
          have e1 : clB (best, true, mx) = (best : Int) := rfl
          rw [e1]
          obtain ⟨hb1, hb2⟩ := hlik rfl
          (repeat first|refine xo rfl rfl (by first|exact trivial|(simp only[AllP];omega)) ?_|refine x_know rfl _ _ (some false) rfl rfl rfl ?_)
          refine x_is false rfl 11 false rfl rfl rfl (by simp only [decide_eq_false_iff_not]; omega) ?_
          refine x_load (b := b) (off := off + i) (v := S (l.getD i [])) rfl rfl (fun W' h' => cell hc W' (kW.trans h')) rfl rfl rfl rfl ?_
          (repeat refine xo rfl rfl (by first|exact trivial|(simp only[AllP];omega)) ?_)
          refine x_load (b := b) (off := off + best) (v := S (l.getD best [])) rfl rfl (fun W' h' => cell (by omega) W' (kW.trans h')) rfl rfl rfl rfl ?_
          refine x_act rfl ?_
          refine o_call (rlikeness_ret name (l.getD i []) _) rfl rfl rfl ?_
          rintro v W4 ⟨rfl, k4⟩
          refine o_nil ⟨.inr ((kd0.trans k3).trans k4), ?_⟩
          refine x_act rfl ?_
          refine o_call (rlikeness_ret name (l.getD best []) _) rfl rfl rfl ?_
          rintro v W5 ⟨rfl, k5⟩
          refine o_nil ⟨.inr (((kd0.trans k3).trans k4).trans k5), ?_⟩
          (repeat first|refine xo rfl rfl trivial ?_|refine xn ?_)
          exact ⟨fgt (like name (l.getD i [])) (like name (l.getD best [])), rfl, kW.trans (((kd0.trans k3).trans k4).trans k5), by rw [hb2]; simp⟩
    · rintro z e3 W3 ⟨kW3, hz⟩
      have hnx := next W3 z kW3 (by rw [hz])
      cases z with
      | true =>
        rw [if_pos rfl] at hnx
        (repeat first|refine zg ?_|refine zo rfl rfl (by first|exact trivial|(simp only[AllP];omega)) ?_|refine zn ?_|refine zt rfl ?_)
        exact ⟨i + 1, by rw [hnx]; rfl, ⟨by omega, kW3⟩, by omega⟩
      | false =>
        rw [if_neg (by simp)] at hnx
        (repeat first|refine zg ?_|refine zo rfl rfl (by first|exact trivial|(simp only[AllP];omega)) ?_|refine zn ?_|refine zk ?_|refine zf rfl ?_)
        exact ⟨i + 1, by rw [hnx]; rfl, ⟨by omega, kW3⟩, by omega⟩
  · have hi : i = l.length := by omega
    subst hi
    have htk : (nums l).take l.length = nums l := List.take_of_length_le (by rw [nums_length]; omega)
    rw [htk]
    have k1 := hnew.kp.trans kW
    have hnone := (cloL_spec name least l).none
    generalize cloL name least (nums l) = c at hnone ⊢
    obtain ⟨best, found, mx⟩ := c
    cases found with
    | true =>
      have e1 : clB (best, true, mx) = (best : Int) := rfl
      rw [e1]
      (repeat first|refine zA ?_|refine zB ?_|refine zg ?_|refine zo rfl rfl trivial ?_|refine zn ?_|refine ze rfl ?_|refine zr ?_|refine zk ?_|refine zf rfl ?_)
      exact ⟨_, rfl, rfl, k1⟩
    | false =>
      have e1 : clB (best, false, mx) = -1 := rfl
      rw [e1]
      have hb0 : best = 0 := (hnone rfl).1
      subst hb0
      (repeat first|refine zA ?_|refine zB ?_|refine zg ?_|refine zo rfl rfl trivial ?_|refine zn ?_|refine ze rfl ?_|refine zr ?_|refine zt rfl ?_)
      exact ⟨_, rfl, rfl, k1⟩
end Go.Vc
/- Texts, less and greater: rules; cmp.Compare. -/
namespace Go.Vc
open Go Go.Proofs
set_option maxRecDepth 10000
/-- less, byte by byte -/
abbrev sl (s t : Str) : Bool := Op.bytesLess s t
theorem sl_irrefl : ∀ s : Str, sl s s = false
  | [] => rfl
  | x :: r => by
    show (decide (x < x) || ((x == x) && sl r r)) = false
    rw [sl_irrefl r]; simp
theorem sl_trans : ∀ {s t u : Str}, sl s t = true → sl t u = true → sl s u = true
  | _, [], _, h, _ => by simp [Op.bytesLess] at h
  | _, _ :: _, [], _, h => by simp [Op.bytesLess] at h
  | [], _ :: _, _ :: _, _, _ => rfl
  | x :: r, y :: r2, z :: r3, h, k => by
    simp only [Op.bytesLess, Bool.or_eq_true, Bool.and_eq_true, decide_eq_true_eq, beq_iff_eq] at h k ⊢
    rcases h with h | ⟨rfl, h⟩ <;> rcases k with k | ⟨rfl, k⟩
    · exact .inl (UInt8.lt_trans h k)
    · exact .inl h
    · exact .inl k
    · exact .inr ⟨rfl, sl_trans h k⟩
theorem sl_tri : ∀ {s t : Str}, sl s t = false → sl t s = false → s = t
  | [], [], _, _ => rfl
  | [], _ :: _, h, _ => by simp [Op.bytesLess] at h
  | _ :: _, [], _, h => by simp [Op.bytesLess] at h
  | x :: r, y :: r2, h, k => by
    simp only [Op.bytesLess, Bool.or_eq_false_iff, Bool.and_eq_false_imp, decide_eq_false_iff_not, beq_iff_eq] at h k
    have hxy : x = y := by
      have h1 := h.1; have k1 := k.1
      exact UInt8.le_antisymm (UInt8.not_lt.1 k1) (UInt8.not_lt.1 h1)
    subst hxy
    rw [sl_tri (h.2 rfl) (k.2 rfl)]
variable {w : World}
theorem isNaNS_ret (s : Str) (w : World) : Ret Tryd.prog 59 [S s] w (fun v w' => v = .bool false ∧ w' = w) := by
  refine enter Tryd.call59 Tryd.func59 rfl rfl rfl rfl ?_
  (repeat first|refine zA ?_|refine zg ?_|refine zo rfl rfl trivial ?_|refine zn ?_|refine zr ?_)
  exact ⟨_, rfl, by simp, rfl⟩
def cmpI (s t : Str) : Int := if sl s t = true then -1 else if s = t then 0 else 1
theorem compareS_ret (s t : Str) (w : World) : Ret Tryd.prog 47 [S s, S t] w (fun v w' => v = I (cmpI s t) ∧ w' = w) := by
  unfold cmpI
  refine enter Tryd.call47 Tryd.func47 rfl rfl rfl rfl ?_
  (repeat first|refine zA ?_|refine zg ?_|refine zo rfl rfl trivial ?_|refine zn ?_)
  refine o_call (isNaNS_ret _ _) rfl rfl rfl ?_
  rintro v w' ⟨rfl, rfl⟩
  (repeat first|refine zA ?_|refine zg ?_|refine zo rfl rfl trivial ?_|refine zn ?_)
  refine o_call (isNaNS_ret _ _) rfl rfl rfl ?_
  rintro v w' ⟨rfl, rfl⟩
  (repeat first|refine zA ?_|refine zB ?_|refine zg ?_|refine zo rfl rfl trivial ?_|refine zn ?_|refine zk ?_|refine zf rfl ?_)
  cases h : sl s t with
  | true =>
    unfold sl at h
    rw [h]
    (repeat first|refine zA ?_|refine zg ?_|refine zo rfl rfl trivial ?_|refine zn ?_|refine zr ?_|refine zt rfl ?_)
    exact ⟨_, rfl, rfl, rfl⟩
  | false =>
    unfold sl at h
    rw [h]
    (repeat first|refine zA ?_|refine zB ?_|refine zg ?_|refine zo rfl rfl trivial ?_|refine zn ?_|refine zk ?_|refine zf rfl ?_)
    by_cases c : s = t
    · rw [h, show decide (s = t) = true from decide_eq_true c]
      (repeat first|refine zA ?_|refine zg ?_|refine zo rfl rfl trivial ?_|refine zn ?_|refine zr ?_|refine zk ?_|refine zf rfl ?_)
      exact ⟨_, rfl, by simp [c], rfl⟩
    · rw [h, show decide (s = t) = false from decide_eq_false c]
      (repeat first|refine zA ?_|refine zg ?_|refine zo rfl rfl trivial ?_|refine zn ?_|refine zr ?_|refine zt rfl ?_)
      exact ⟨_, rfl, by simp [c], rfl⟩
end Go.Vc
/- the shelf at this program, in plain words (printed by tool/lay.py: shelf_lay_g SlLaysF.n6 Slsf 6 at Tryd 45 as Tryd.laySort) -/
namespace Go.Proofs
open Go.Shelf
def Tryd.laySort_ren : Go.Shelf.Ren := ⟨fun | 6 => 45 | 15 => 58 | 14 => 57 | 28 => 74 | 29 => 75 | 20 => 53 | 21 => 67 | 22 => 68 | 23 => 69 | 24 => 70 | 25 => 71 | 26 => 72 | 27 => 73 | 46 => 82 | 47 => 83 | 48 => 84 | 49 => 85 | 50 => 86 | 57 => 89 | n => n, fun | 22 => 34 | 24 => 3 | 25 => 68 | 3 => 3 | 39 => 93 | 0 => 0 | 53 => 109 | 55 => 96 | 4 => 4 | 46 => 103 | 45 => 102 | 50 => 29 | 5 => 5 | 9 => 9 | 66 => 116 | 70 => 120 | 76 => 122 | 77 => 72 | n => n, fun | n => n⟩
theorem Tryd.laySort : Go.Proofs.SlLaysF.n6 Tryd.prog Tryd.laySort_ren := {
  mixed := by kernel_rfl
  f6 := ⟨Tryd.f45.name, by decide, Tryd.func45.trans (congrArg some (by kernel_rfl))⟩
  f14 := ⟨Tryd.f57.name, by decide, Tryd.func57.trans (congrArg some (by kernel_rfl))⟩
  f15 := Tryd.func58.trans (congrArg some (by kernel_rfl))
  f20 := ⟨Tryd.f53.name, by decide, Tryd.func53.trans (congrArg some (by kernel_rfl))⟩
  f21 := ⟨Tryd.f67.name, by decide, Tryd.func67.trans (congrArg some (by kernel_rfl))⟩
  f22 := ⟨Tryd.f68.name, by decide, Tryd.func68.trans (congrArg some (by kernel_rfl))⟩
  f23 := ⟨Tryd.f69.name, by decide, Tryd.func69.trans (congrArg some (by kernel_rfl))⟩
  f24 := ⟨Tryd.f70.name, by decide, Tryd.func70.trans (congrArg some (by kernel_rfl))⟩
  f25 := ⟨Tryd.f71.name, by decide, Tryd.func71.trans (congrArg some (by kernel_rfl))⟩
  f26 := ⟨Tryd.f72.name, by decide, Tryd.func72.trans (congrArg some (by kernel_rfl))⟩
  f27 := ⟨Tryd.f73.name, by decide, Tryd.func73.trans (congrArg some (by kernel_rfl))⟩
  f28 := Tryd.func74.trans (congrArg some (by kernel_rfl))
  f29 := Tryd.func75.trans (congrArg some (by kernel_rfl))
  f46 := ⟨Tryd.f82.name, by decide, Tryd.func82.trans (congrArg some (by kernel_rfl))⟩
  f47 := Tryd.func83.trans (congrArg some (by kernel_rfl))
  f48 := Tryd.func84.trans (congrArg some (by kernel_rfl))
  f49 := ⟨Tryd.f85.name, by decide, Tryd.func85.trans (congrArg some (by kernel_rfl))⟩
  f50 := ⟨Tryd.f86.name, by decide, Tryd.func86.trans (congrArg some (by kernel_rfl))⟩
  f57 := ⟨Tryd.f89.name, by decide, Tryd.func89.trans (congrArg some (by kernel_rfl))⟩
  t0 := Tryd.underlying0
  a0 := Tryd.isAgg0
  z0 := Tryd.sizeOf0
  v0 := Tryd.zeroValue0
  t3 := Tryd.underlying3
  a3 := Tryd.isAgg3
  z3 := Tryd.sizeOf3
  v3 := Tryd.zeroValue3
  t4 := Tryd.underlying4
  a4 := Tryd.isAgg4
  z4 := Tryd.sizeOf4
  v4 := Tryd.zeroValue4
  t5 := Tryd.underlying5
  a5 := Tryd.isAgg5
  z5 := Tryd.sizeOf5
  v5 := Tryd.zeroValue5
  t9 := Tryd.underlying9
  a9 := Tryd.isAgg9
  z9 := Tryd.sizeOf9
  v9 := Tryd.zeroValue9
  t22 := Tryd.underlying34
  a22 := Tryd.isAgg34
  z22 := Tryd.sizeOf34
  v22 := Tryd.zeroValue34
  a24 := Tryd.isAgg3
  z24 := Tryd.sizeOf3
  t25 := Tryd.underlying68
  a25 := Tryd.isAgg68
  z25 := Tryd.sizeOf68
  v25 := Tryd.zeroValue68
  t39 := Tryd.underlying93
  a39 := Tryd.isAgg93
  z39 := Tryd.sizeOf93
  v39 := Tryd.zeroValue93
  t45 := Tryd.underlying102
  a45 := Tryd.isAgg102
  z45 := Tryd.sizeOf102
  v45 := Tryd.zeroValue102
  t46 := Tryd.underlying103
  a46 := Tryd.isAgg103
  z46 := Tryd.sizeOf103
  v46 := Tryd.zeroValue103
  t50 := Tryd.underlying29
  a50 := Tryd.isAgg29
  z50 := Tryd.sizeOf29
  v50 := Tryd.zeroValue29
  t53 := Tryd.underlying109
  a53 := Tryd.isAgg109
  z53 := Tryd.sizeOf109
  v53 := Tryd.zeroValue109
  t55 := Tryd.underlying96
  a55 := Tryd.isAgg96
  z55 := Tryd.sizeOf96
  v55 := Tryd.zeroValue96
  t66 := Tryd.underlying116
  a66 := Tryd.isAgg116
  z66 := Tryd.sizeOf116
  v66 := Tryd.zeroValue116
  t70 := Tryd.underlying120
  a70 := Tryd.isAgg120
  z70 := Tryd.sizeOf120
  v70 := Tryd.zeroValue120
  t76 := Tryd.underlying122
  a76 := Tryd.isAgg122
  z76 := Tryd.sizeOf122
  v76 := Tryd.zeroValue122
  t77 := Tryd.underlying72
  a77 := Tryd.isAgg72
  z77 := Tryd.sizeOf72
  v77 := Tryd.zeroValue72 }
end Go.Proofs
