/- order: what a beginning of a list says; the races' variables: plain laws. -/
import Derived.Test.YtkgjibhbhddckaaQClStrict39
namespace Go.Vc
open Go Go.Proofs
theorem filterMap_eq {α β : Type} {f g : α → Option β} : ∀ {l : List α}, (∀ x ∈ l, f x = g x) → l.filterMap f = l.filterMap g
  | [], _ => rfl
  | x :: r, h => by
    have ih := filterMap_eq (l := r) (fun y hy => h y (by simp [hy]))
    rw [List.filterMap_cons, List.filterMap_cons, h x (by simp), ih]
theorem can_acc {s : Shp} {c : Ck} {x : Ev} (hc : canB s c x = true) (hk : x.k = 1 ∨ x.k = 2) : 0 ≤ x.o ∧ x.o < s.va := by
  unfold canB at hc
  by_cases h2 : (st c x.t).ph = 2
  · rw [if_pos h2] at hc
    rcases hk with hk | hk <;> rw [hk] at hc <;> simp at hc
  · rw [if_neg h2] at hc
    by_cases h1 : (st c x.t).ph ≠ 1
    · rw [if_pos h1] at hc; simp at hc
    · rw [if_neg h1] at hc
      by_cases h0 : x.o < 0
      · rw [if_pos h0] at hc; simp at hc
      · rw [if_neg h0] at hc
        rcases hk with hk | hk <;> rw [hk] at hc <;> simp at hc <;> omega
section
variable {E : List Ev} {R : List Int}
theorem racesJ_mem {j i : Nat} {x : P3} : x ∈ racesJ E R j i ↔ ∃ a, a < i ∧ raceI E R a j = true ∧ x = ((evA E j).o, a, j) := by
  unfold racesJ
  rw [List.mem_filterMap]
  constructor
  · rintro ⟨a, ha, h⟩
    split at h
    · rename_i hr
      exact ⟨a, by simpa using ha, hr, by simpa using h.symm⟩
    · cases h
  · rintro ⟨a, ha, hr, rfl⟩
    exact ⟨a, by simpa using ha, by rw [if_pos hr]⟩
theorem racesN_mem {n : Nat} {x : P3} : x ∈ racesN E R n ↔ ∃ j a, j < n ∧ a < j ∧ raceI E R a j = true ∧ x = ((evA E j).o, a, j) := by
  unfold racesN
  rw [List.mem_flatMap]
  constructor
  · rintro ⟨j, hj, h⟩
    obtain ⟨a, h1, h2, h3⟩ := racesJ_mem.1 h
    exact ⟨j, a, by simpa using hj, h1, h2, h3⟩
  · rintro ⟨j, a, hj, h1, h2, h3⟩
    exact ⟨j, by simpa using hj, racesJ_mem.2 ⟨a, h1, h2, h3⟩⟩
theorem raceI_acc {i j : Nat} (h : raceI E R i j = true) : accB (evA E i) = true ∧ accB (evA E j) = true := by
  unfold raceI at h
  simp only [Bool.and_eq_true] at h
  exact ⟨h.1.1, h.1.2.1⟩
end
theorem acc_k {x : Ev} (h : accB x = true) : x.k = 1 ∨ x.k = 2 := by
  unfold accB at h
  simpa using h
/-- the variables of races are among the shape's -/
theorem races_var {s : Shp} {l : List Ev} (hs : shapeB s = true) (ho : okTo s l l.length) : ∀ x ∈ racesN l (rnds s l l.length) l.length, 0 ≤ x.1 ∧ x.1 ≤ 1048576 := by
  intro x hx
  obtain ⟨j, a, hj, ha, hr, rfl⟩ := racesN_mem.1 hx
  have hv : s.va ≤ 4096 := ((shapeB_iff s).1 hs).2.1.2
  have hg : l[j]? = some (evA l j) := by unfold evA; rw [List.getElem?_eq_getElem hj]; rfl
  have := can_acc (ho j _ hj hg) (acc_k (raceI_acc hr).2)
  dsimp only; omega
section
variable {s : Shp} {l : List Ev} {n : Nat}
theorem runC_take {j : Nat} (hj : j ≤ n) : runC s (l.take n) j = runC s l j := by
  unfold runC
  rw [List.take_take, Nat.min_eq_left hj]
theorem okTo_take (ho : okTo s l l.length) : okTo s (l.take n) (l.take n).length := by
  intro j x hj hx
  rw [List.getElem?_take] at hx
  split at hx
  · rename_i hjn
    rw [runC_take (by omega)]
    exact ho j x (List.getElem?_eq_some_iff.1 hx).1 hx
  · cases hx
theorem evA_take {i : Nat} (hi : i < n) : evA (l.take n) i = evA l i := by
  unfold evA
  rw [List.getElem?_take, if_pos hi]
theorem roA_rnds {m i : Nat} (hi : i < m) : roA (rnds s l m) i = rnd (runC s l i) (evA l i) := by
  unfold roA rnds
  rw [List.getElem?_map, List.getElem?_range hi]; rfl
variable (hn : n ≤ l.length)
include hn
theorem take_len : (l.take n).length = n := by rw [List.length_take]; omega
theorem whyI_take {i j : Int} (hj : j < n) : whyI (l.take n) (rnds s (l.take n) (l.take n).length) i j = whyI l (rnds s l l.length) i j := by
  unfold whyI
  rw [take_len hn]
  by_cases h : 0 ≤ i ∧ i < j
  · rw [if_pos ⟨h.1, h.2, hj⟩, if_pos ⟨h.1, h.2, by omega⟩, evA_take (by omega), evA_take (by omega), roA_rnds (by omega), roA_rnds (by omega), roA_rnds (by omega), roA_rnds (by omega), runC_take (by omega), runC_take (by omega), evA_take (by omega), evA_take (by omega)]
  · rw [if_neg (by omega), if_neg (by omega)]
theorem lk_take {a b : Nat} (hb : b < n) : lk (l.take n) (rnds s (l.take n) (l.take n).length) a b ↔ lk l (rnds s l l.length) a b := by
  unfold lk
  rw [whyI_take hn (by omega)]
theorem ch_take {a b : Nat} (hb : b < n) : Ch (lk (l.take n) (rnds s (l.take n) (l.take n).length)) a b ↔ Ch (lk l (rnds s l l.length)) a b := by
  constructor
  · intro h
    refine h.mono fun i j hij => ?_
    have := (lk_lt hij).2
    rw [take_len hn] at this
    exact (lk_take hn this).1 hij
  · intro h
    induction h with
    | one h => exact .one ((lk_take hn hb).2 h)
    | more h g ih =>
      have := (ch_lt g).1
      exact .more ((lk_take hn (by omega)).2 h) (ih hb)
theorem befI_take {i j : Int} (hj : j < n) : befI (l.take n) (rnds s (l.take n) (l.take n).length) i j = befI l (rnds s l l.length) i j := by
  rw [Bool.eq_iff_iff, befI_iff, befI_iff]
  constructor
  · rintro ⟨h1, h2, h3⟩
    exact ⟨h1, h2, (ch_take hn (by omega)).1 h3⟩
  · rintro ⟨h1, h2, h3⟩
    exact ⟨h1, h2, (ch_take hn (by omega)).2 h3⟩
theorem raceI_take {i j : Nat} (hi : i < j) (hj : j < n) : raceI (l.take n) (rnds s (l.take n) (l.take n).length) i j = raceI l (rnds s l l.length) i j := by
  unfold raceI
  rw [evA_take (by omega), evA_take hj, befI_take hn (by omega)]
theorem racesJ_take {i j : Nat} (hi : i ≤ j) (hj : j < n) : racesJ (l.take n) (rnds s (l.take n) (l.take n).length) j i = racesJ l (rnds s l l.length) j i := by
  unfold racesJ
  refine filterMap_eq fun a ha => ?_
  have : a < i := by simpa using ha
  rw [raceI_take hn (by omega) hj, evA_take hj]
theorem racesN_take {m : Nat} (hm : m ≤ n) : racesN (l.take n) (rnds s (l.take n) (l.take n).length) m = racesN l (rnds s l l.length) m := by
  induction m with
  | zero => rfl
  | succ m ih => rw [racesN_succ, racesN_succ, ih (by omega), racesJ_take hn (Nat.le_refl _) (by omega)]
end
section
variable {E : List Ev} {R : List Int} {n : Nat}
/-- the races up to n, then those behind -/
theorem racesN_split {N : Nat} (hn : n ≤ N) : ∃ rest, racesN E R N = racesN E R n ++ rest ∧ (∀ x ∈ racesN E R n, x.2.2 < n) ∧ ∀ x ∈ rest, n ≤ x.2.2 := by
  refine ⟨((List.range N).drop n).flatMap fun j => racesJ E R j j, ?_, ?_, ?_⟩
  · unfold racesN
    rw [show List.range n = (List.range N).take n by rw [List.take_range, Nat.min_eq_left hn], ← List.flatMap_append, List.take_append_drop]
  · intro x hx
    obtain ⟨j, a, hj, _, _, rfl⟩ := racesN_mem.1 hx
    exact hj
  · intro x hx
    obtain ⟨j, hj, h⟩ := List.mem_flatMap.1 hx
    obtain ⟨a, _, _, rfl⟩ := racesJ_mem.1 h
    obtain ⟨i, hi⟩ := List.getElem?_of_mem hj
    rw [List.getElem?_drop] at hi
    have := List.getElem?_eq_some_iff.1 hi
    obtain ⟨_, h2⟩ := this
    simp at h2
    show n ≤ j
    omega
theorem races_filter {N : Nat} (hn : n ≤ N) : (racesN E R N).filter (fun x => decide ((x.2.2 : Int) < n)) = racesN E R n := by
  obtain ⟨rest, h1, h2, h3⟩ := racesN_split (E := E) (R := R) hn
  rw [h1, List.filter_append, List.filter_eq_self.2 (fun x hx => by have := h2 x hx; simpa using this), List.filter_eq_nil_iff.2 (fun x hx => by have := h3 x hx; simp; omega), List.append_nil]
end
end Go.Vc
/- order: Flags: which variables are raced upon. -/
namespace Go.Vc
open Go Go.Proofs
set_option maxRecDepth 10000
variable {w : World}
/-- a flag: its variable, where -/
abbrev F2 := Int × Int
abbrev flgC (x : F2) : List Value := [I x.1, I x.2]
def flgsC (l : List F2) : List Value := l.flatMap flgC
theorem flgsC_len (l : List F2) : (flgsC l).length = l.length * 2 := flC_len (f := flgC) (m := 2) (fun _ => rfl) l
theorem flgsC_snoc (l : List F2) (x : F2) : flgsC (l ++ [x]) = flgsC l ++ flgC x := by simp [flgsC]
theorem flgsC_get {l : List F2} {i : Nat} {x : F2} (hx : l[i]? = some x) {j : Nat} {v : Value} (hv : (flgC x)[j]? = some v) : (flgsC l)[i * 2 + j]? = some v := flC_get (f := flgC) (m := 2) (fun _ => rfl) hx hv
theorem Flags1_ret (x : F2) {b6 : Nat} {y : P3} (hb : Blk w b6 (pairC y) 53) : Ret Try.prog 66 [.agg ⟨flgC x⟩, ptr b6] w (fun r w' => r = .bool (decide (x.1 = y.1)) ∧ Kp [] w w') := by
  refine enter Try.call66 Try.func66 rfl rfl rfl rfl ?_
  (repeat first|refine zA ?_|refine zB ?_|refine zC ?_|refine zD ?_|refine zE ?_|refine zg ?_|refine zo rfl rfl (by first|exact trivial|(simp only[AllP];omega)|(simp(discharger:=omega)only[AllP,cA,cB];omega)|(simp only[AllP,cC,cD,cE,cF,cG];omega)) ?_|refine zn ?_|refine zb ?_|refine ze rfl ?_|refine zr ?_|refine zk ?_|refine zT rfl rfl rfl ?_|refine zU rfl rfl rfl ?_|refine zV rfl rfl rfl ?_|refine zf rfl ?_|refine zt rfl ?_)
  refine o_box rfl rfl rfl ?_
  intro bx w1 hbx hu1
  have k1 : Kp [] w w1 := hu1.kp [] (.inr (by omega))
  have hB1 : Blk w1 bx (flgC x) 68 := hu1.blk
  (repeat first|refine zA ?_|refine zB ?_|refine zC ?_|refine zD ?_|refine zE ?_|refine zg ?_|refine zo rfl rfl (by first|exact trivial|(simp only[AllP];omega)|(simp(discharger:=omega)only[AllP,cA,cB];omega)|(simp only[AllP,cC,cD,cE,cF,cG];omega)) ?_|refine zn ?_|refine zb ?_|refine ze rfl ?_|refine zr ?_|refine zk ?_|refine zT rfl rfl rfl ?_|refine zU rfl rfl rfl ?_|refine zV rfl rfl rfl ?_|refine zf rfl ?_|refine zt rfl ?_)
  refine o_load (v := I x.1) rfl hB1 rfl rfl rfl rfl rfl ?_
  (repeat first|refine zA ?_|refine zB ?_|refine zC ?_|refine zD ?_|refine zE ?_|refine zg ?_|refine zo rfl rfl (by first|exact trivial|(simp only[AllP];omega)|(simp(discharger:=omega)only[AllP,cA,cB];omega)|(simp only[AllP,cC,cD,cE,cF,cG];omega)) ?_|refine zn ?_|refine zb ?_|refine ze rfl ?_|refine zr ?_|refine zk ?_|refine zT rfl rfl rfl ?_|refine zU rfl rfl rfl ?_|refine zV rfl rfl rfl ?_|refine zf rfl ?_|refine zt rfl ?_)
  refine o_load (v := I y.1) rfl (k1.blk (by simp) hb) rfl rfl rfl rfl rfl ?_
  (repeat first|refine zA ?_|refine zB ?_|refine zC ?_|refine zD ?_|refine zE ?_|refine zg ?_|refine zo rfl rfl (by first|exact trivial|(simp only[AllP];omega)|(simp(discharger:=omega)only[AllP,cA,cB];omega)|(simp only[AllP,cC,cD,cE,cF,cG];omega)) ?_|refine zn ?_|refine zb ?_|refine ze rfl ?_|refine zr ?_|refine zk ?_|refine zT rfl rfl rfl ?_|refine zU rfl rfl rfl ?_|refine zV rfl rfl rfl ?_|refine zf rfl ?_|refine zt rfl ?_)
  exact ⟨_, rfl, rfl, k1⟩
theorem IndexFlag_ret {b6 : Nat} {y : P3} (hb : Blk w b6 (pairC y) 53) {ad : Option Addr} {l : List F2} {cap : Nat} (hr : ReadS w ad (flgsC l)) (hl : l.length ≤ 4611686018427387904) :
    Ret Try.prog 89 [.slice ad l.length cap, .func (.func 66) #[] #[ptr b6]] w (fun v w' => ∃ r : Int, v = I r ∧ (0 ≤ r ↔ l.any (fun x => decide (x.1 = y.1)) = true) ∧ Kp [] w w') := by
  refine enter Try.call89 Try.func89 rfl rfl rfl rfl ?_
  (repeat first|refine zA ?_|refine zB ?_|refine zC ?_|refine zD ?_|refine zE ?_|refine zg ?_|refine zo rfl rfl (by first|exact trivial|(simp only[AllP];omega)|(simp(discharger:=omega)only[AllP,cA,cB];omega)|(simp only[AllP,cC,cD,cE,cF,cG];omega)) ?_|refine zn ?_|refine zb ?_|refine ze rfl ?_|refine zr ?_|refine zk ?_|refine zT rfl rfl rfl ?_|refine zU rfl rfl rfl ?_|refine zV rfl rfl rfl ?_|refine zf rfl ?_|refine zt rfl ?_)
  refine r_loop (α := Nat) [0, 1, 7, 8] (fun j => [.slice ad l.length cap, .func (.func 66) #[] #[ptr b6], I l.length, I j]) (fun j w1 => Kp [] w w1 ∧ j ≤ l.length ∧ (l.take j).any (fun x => decide (x.1 = y.1)) = false) (fun j => l.length - j) 0 rfl ⟨Kp.refl _ _, by omega, by simp⟩ ?_
  rintro j e w1 ⟨kk, hj, hany⟩
  (repeat first|refine zA ?_|refine zB ?_|refine zC ?_|refine zD ?_|refine zE ?_|refine zg ?_|refine zo rfl rfl (by first|exact trivial|(simp only[AllP];omega)|(simp(discharger:=omega)only[AllP,cA,cB];omega)|(simp only[AllP,cC,cD,cE,cF,cG];omega)) ?_|refine zn ?_|refine zb ?_|refine ze rfl ?_|refine zr ?_|refine zk ?_|refine zT rfl rfl rfl ?_|refine zU rfl rfl rfl ?_|refine zV rfl rfl rfl ?_|refine zf rfl ?_|refine zt rfl ?_)
  refine r_if rfl (fun hc => ?_) (fun hc => ?_)
  · have hlt : j < l.length := by omega
    obtain ⟨x, hx⟩ : ∃ x, l[j]? = some x := ⟨_, List.getElem?_eq_getElem hlt⟩
    obtain ⟨b, off, rfl, _, hcell⟩ := (hr.kp kk (by simp)).at_ (by rw [flgsC_len]; omega)
    (repeat first|refine zA ?_|refine zB ?_|refine zC ?_|refine zD ?_|refine zE ?_|refine zg ?_|refine zo rfl rfl (by first|exact trivial|(simp only[AllP];omega)|(simp(discharger:=omega)only[AllP,cA,cB];omega)|(simp only[AllP,cC,cD,cE,cF,cG];omega)) ?_|refine zn ?_|refine zb ?_|refine ze rfl ?_|refine zr ?_|refine zk ?_|refine zT rfl rfl rfl ?_|refine zU rfl rfl rfl ?_|refine zV rfl rfl rfl ?_|refine zf rfl ?_|refine zt rfl ?_)
    refine o_loadA (b := b) (off := off + j * 2) (vs := flgC x) rfl (fun i v hv => by rw [Nat.add_assoc]; exact hcell _ _ (flgsC_get hx hv)) rfl rfl rfl rfl rfl rfl ?_
    (repeat first|refine zA ?_|refine zB ?_|refine zC ?_|refine zD ?_|refine zE ?_|refine zg ?_|refine zo rfl rfl (by first|exact trivial|(simp only[AllP];omega)|(simp(discharger:=omega)only[AllP,cA,cB];omega)|(simp only[AllP,cC,cD,cE,cF,cG];omega)) ?_|refine zn ?_|refine zb ?_|refine ze rfl ?_|refine zr ?_|refine zk ?_|refine zT rfl rfl rfl ?_|refine zU rfl rfl rfl ?_|refine zV rfl rfl rfl ?_|refine zf rfl ?_|refine zt rfl ?_)
    refine o_callv (first := #[]) (cap := #[ptr b6]) (Flags1_ret x (kk.blk (by simp) hb)) rfl rfl rfl rfl ?_
    rintro v w2 ⟨rfl, k2⟩
    (repeat first|refine zA ?_|refine zB ?_|refine zC ?_|refine zD ?_|refine zE ?_|refine zg ?_|refine zo rfl rfl (by first|exact trivial|(simp only[AllP];omega)|(simp(discharger:=omega)only[AllP,cA,cB];omega)|(simp only[AllP,cC,cD,cE,cF,cG];omega)) ?_|refine zn ?_|refine zb ?_|refine ze rfl ?_|refine zr ?_|refine zk ?_|refine zT rfl rfl rfl ?_|refine zU rfl rfl rfl ?_|refine zV rfl rfl rfl ?_|refine zf rfl ?_|refine zt rfl ?_)
    by_cases hp : x.1 = y.1
    · rw [decide_eq_true hp]
      (repeat first|refine zA ?_|refine zB ?_|refine zC ?_|refine zD ?_|refine zE ?_|refine zg ?_|refine zo rfl rfl (by first|exact trivial|(simp only[AllP];omega)|(simp(discharger:=omega)only[AllP,cA,cB];omega)|(simp only[AllP,cC,cD,cE,cF,cG];omega)) ?_|refine zn ?_|refine zb ?_|refine ze rfl ?_|refine zr ?_|refine zk ?_|refine zT rfl rfl rfl ?_|refine zU rfl rfl rfl ?_|refine zV rfl rfl rfl ?_|refine zf rfl ?_|refine zt rfl ?_)
      exact ⟨_, rfl, j, rfl, ⟨fun _ => List.any_eq_true.2 ⟨x, List.mem_of_getElem? hx, decide_eq_true hp⟩, fun _ => by omega⟩, kk.trans k2⟩
    · rw [decide_eq_false hp]
      (repeat first|refine zA ?_|refine zB ?_|refine zC ?_|refine zD ?_|refine zE ?_|refine zg ?_|refine zo rfl rfl (by first|exact trivial|(simp only[AllP];omega)|(simp(discharger:=omega)only[AllP,cA,cB];omega)|(simp only[AllP,cC,cD,cE,cF,cG];omega)) ?_|refine zn ?_|refine zb ?_|refine ze rfl ?_|refine zr ?_|refine zk ?_|refine zT rfl rfl rfl ?_|refine zU rfl rfl rfl ?_|refine zV rfl rfl rfl ?_|refine zf rfl ?_|refine zt rfl ?_)
      refine ⟨j + 1, rfl, ⟨kk.trans k2, by omega, ?_⟩, by omega⟩
      rw [List.take_add_one, hx, List.any_append, hany]
      simp [hp]
  · (repeat first|refine zA ?_|refine zB ?_|refine zC ?_|refine zD ?_|refine zE ?_|refine zg ?_|refine zo rfl rfl (by first|exact trivial|(simp only[AllP];omega)|(simp(discharger:=omega)only[AllP,cA,cB];omega)|(simp only[AllP,cC,cD,cE,cF,cG];omega)) ?_|refine zn ?_|refine zb ?_|refine ze rfl ?_|refine zr ?_|refine zk ?_|refine zT rfl rfl rfl ?_|refine zU rfl rfl rfl ?_|refine zV rfl rfl rfl ?_|refine zf rfl ?_|refine zt rfl ?_)
    have : j = l.length := by omega
    subst this
    rw [List.take_length] at hany
    exact ⟨_, rfl, -1, rfl, ⟨fun h => by omega, fun h => by rw [hany] at h; cases h⟩, kk⟩
theorem ContainsFlag_ret {b6 : Nat} {y : P3} (hb : Blk w b6 (pairC y) 53) {ad : Option Addr} {l : List F2} {cap : Nat} (hr : ReadS w ad (flgsC l)) (hl : l.length ≤ 4611686018427387904) :
    Ret Try.prog 65 [.slice ad l.length cap, .func (.func 66) #[] #[ptr b6]] w (fun v w' => v = .bool (l.any (fun x => decide (x.1 = y.1))) ∧ Kp [] w w') := by
  refine enter Try.call65 Try.func65 rfl rfl rfl rfl ?_
  (repeat first|refine zA ?_|refine zB ?_|refine zC ?_|refine zD ?_|refine zE ?_|refine zg ?_|refine zo rfl rfl (by first|exact trivial|(simp only[AllP];omega)|(simp(discharger:=omega)only[AllP,cA,cB];omega)|(simp only[AllP,cC,cD,cE,cF,cG];omega)) ?_|refine zn ?_|refine zb ?_|refine ze rfl ?_|refine zr ?_|refine zk ?_|refine zT rfl rfl rfl ?_|refine zU rfl rfl rfl ?_|refine zV rfl rfl rfl ?_|refine zf rfl ?_|refine zt rfl ?_)
  refine o_call (IndexFlag_ret hb hr hl) rfl rfl rfl ?_
  rintro v w1 ⟨r, rfl, hq, kk⟩
  (repeat first|refine zA ?_|refine zB ?_|refine zC ?_|refine zD ?_|refine zE ?_|refine zg ?_|refine zo rfl rfl (by first|exact trivial|(simp only[AllP];omega)|(simp(discharger:=omega)only[AllP,cA,cB];omega)|(simp only[AllP,cC,cD,cE,cF,cG];omega)) ?_|refine zn ?_|refine zb ?_|refine ze rfl ?_|refine zr ?_|refine zk ?_|refine zT rfl rfl rfl ?_|refine zU rfl rfl rfl ?_|refine zV rfl rfl rfl ?_|refine zf rfl ?_|refine zt rfl ?_)
  refine ⟨_, rfl, ?_, kk⟩
  congr 1
  cases ha : l.any (fun x => decide (x.1 = y.1)) with
  | true => have := hq.2 ha; simpa using this
  | false =>
    have : ¬ 0 ≤ r := fun h0 => by have := hq.1 h0; rw [ha] at this; cases this
    simp; omega
/-- the comparison that the sort is given -/
theorem Flags2_ret (x y : F2) (hx : 0 ≤ x.1 ∧ x.1 ≤ 1048576) (hy : 0 ≤ y.1 ∧ y.1 ≤ 1048576) : Ret Try.prog 68 [.agg ⟨flgC x⟩, .agg ⟨flgC y⟩] w (fun r w' => r = I (x.1 - y.1) ∧ Kp [] w w') := by
  refine enter Try.call68 Try.func68 rfl rfl rfl rfl ?_
  (repeat first|refine zA ?_|refine zB ?_|refine zC ?_|refine zD ?_|refine zE ?_|refine zg ?_|refine zo rfl rfl (by first|exact trivial|(simp only[AllP];omega)|(simp(discharger:=omega)only[AllP,cA,cB];omega)|(simp only[AllP,cC,cD,cE,cF,cG];omega)) ?_|refine zn ?_|refine zb ?_|refine ze rfl ?_|refine zr ?_|refine zk ?_|refine zT rfl rfl rfl ?_|refine zU rfl rfl rfl ?_|refine zV rfl rfl rfl ?_|refine zf rfl ?_|refine zt rfl ?_)
  refine o_box rfl rfl rfl ?_
  intro b1 w1 hb1 hu1
  have k1 : Kp [] w w1 := hu1.kp [] (.inr (by omega))
  have hB1 : Blk w1 b1 (flgC x) 68 := hu1.blk
  (repeat first|refine zA ?_|refine zB ?_|refine zC ?_|refine zD ?_|refine zE ?_|refine zg ?_|refine zo rfl rfl (by first|exact trivial|(simp only[AllP];omega)|(simp(discharger:=omega)only[AllP,cA,cB];omega)|(simp only[AllP,cC,cD,cE,cF,cG];omega)) ?_|refine zn ?_|refine zb ?_|refine ze rfl ?_|refine zr ?_|refine zk ?_|refine zT rfl rfl rfl ?_|refine zU rfl rfl rfl ?_|refine zV rfl rfl rfl ?_|refine zf rfl ?_|refine zt rfl ?_)
  refine o_box rfl rfl rfl ?_
  intro b2 w2 hb2 hu2
  have k2 : Kp [] w1 w2 := hu2.kp [] (.inr (by omega))
  have hB2 : Blk w2 b2 (flgC y) 68 := hu2.blk
  have hB1 := k2.blk (by simp) hB1
  (repeat first|refine zA ?_|refine zB ?_|refine zC ?_|refine zD ?_|refine zE ?_|refine zg ?_|refine zo rfl rfl (by first|exact trivial|(simp only[AllP];omega)|(simp(discharger:=omega)only[AllP,cA,cB];omega)|(simp only[AllP,cC,cD,cE,cF,cG];omega)) ?_|refine zn ?_|refine zb ?_|refine ze rfl ?_|refine zr ?_|refine zk ?_|refine zT rfl rfl rfl ?_|refine zU rfl rfl rfl ?_|refine zV rfl rfl rfl ?_|refine zf rfl ?_|refine zt rfl ?_)
  refine o_load (v := I x.1) rfl hB1 rfl rfl rfl rfl rfl ?_
  (repeat first|refine zA ?_|refine zB ?_|refine zC ?_|refine zD ?_|refine zE ?_|refine zg ?_|refine zo rfl rfl (by first|exact trivial|(simp only[AllP];omega)|(simp(discharger:=omega)only[AllP,cA,cB];omega)|(simp only[AllP,cC,cD,cE,cF,cG];omega)) ?_|refine zn ?_|refine zb ?_|refine ze rfl ?_|refine zr ?_|refine zk ?_|refine zT rfl rfl rfl ?_|refine zU rfl rfl rfl ?_|refine zV rfl rfl rfl ?_|refine zf rfl ?_|refine zt rfl ?_)
  refine o_load (v := I y.1) rfl hB2 rfl rfl rfl rfl rfl ?_
  (repeat first|refine zA ?_|refine zB ?_|refine zC ?_|refine zD ?_|refine zE ?_|refine zg ?_|refine zo rfl rfl (by first|exact trivial|(simp only[AllP];omega)|(simp(discharger:=omega)only[AllP,cA,cB];omega)|(simp only[AllP,cC,cD,cE,cF,cG];omega)) ?_|refine zn ?_|refine zb ?_|refine ze rfl ?_|refine zr ?_|refine zk ?_|refine zT rfl rfl rfl ?_|refine zU rfl rfl rfl ?_|refine zV rfl rfl rfl ?_|refine zf rfl ?_|refine zt rfl ?_)
  exact ⟨_, rfl, rfl, k1.trans k2⟩
end Go.Vc
/- order: flags sorted: the plain law. -/
namespace Go.Vc
open Go Go.Proofs
/-- the flags as the races tell them -/
def flgGo (n : Int) : List F2 → List P3 → List F2
  | acc, [] => acc
  | acc, x :: r => if n ≤ (x.2.2 : Int) then acc else flgGo n (if acc.any (fun y => decide (y.1 = x.1)) then acc else acc ++ [(x.1, (x.2.2 : Int))]) r
def insF (x : F2) : List F2 → List F2
  | [] => [x]
  | y :: r => if x.1 < y.1 then x :: y :: r else y :: insF x r
/-- .. kept sorted -/
def refGo (n : Int) : List F2 → List P3 → List F2
  | acc, [] => acc
  | acc, x :: r => if n ≤ (x.2.2 : Int) then acc else refGo n (if acc.any (fun y => decide (y.1 = x.1)) then acc else insF (x.1, (x.2.2 : Int)) acc) r
noncomputable def flagsV (E : List Ev) (R : List Int) (n : Int) : List F2 := refGo n [] (racesN E R E.length)
theorem insF_perm (x : F2) : ∀ l, (insF x l).Perm (x :: l)
  | [] => .refl _
  | y :: r => by
    unfold insF
    split
    · exact .refl _
    · exact ((insF_perm x r).cons y).trans (.swap x y r)
theorem insF_mem {x z : F2} {l : List F2} : z ∈ insF x l ↔ z = x ∨ z ∈ l := by
  rw [(insF_perm x l).mem_iff]; simp
theorem insF_sorted {x : F2} : ∀ {l : List F2}, l.Pairwise (fun a b => a.1 < b.1) → (∀ y ∈ l, y.1 ≠ x.1) → (insF x l).Pairwise (fun a b => a.1 < b.1)
  | [], _, _ => by simp [insF]
  | y :: r, h, hn => by
    rw [List.pairwise_cons] at h
    unfold insF
    split
    · rename_i hlt
      refine List.pairwise_cons.2 ⟨fun z hz => ?_, List.pairwise_cons.2 h⟩
      rcases List.mem_cons.1 hz with rfl | hz
      · exact hlt
      · have := h.1 z hz; omega
    · rename_i hlt
      have := hn y (by simp)
      refine List.pairwise_cons.2 ⟨fun z hz => ?_, insF_sorted h.2 (fun z hz => hn z (by simp [hz]))⟩
      rcases insF_mem.1 hz with rfl | hz
      · omega
      · exact h.1 z hz
theorem any_false {l : List F2} {v : Int} (h : l.any (fun y => decide (y.1 = v)) = false) : ∀ y ∈ l, y.1 ≠ v := fun y hy e => by
  have := List.any_eq_false.1 h y hy
  simp [e] at this
theorem refGo_sorted (n : Int) : ∀ (L : List P3) (acc : List F2), acc.Pairwise (fun a b => a.1 < b.1) → (refGo n acc L).Pairwise (fun a b => a.1 < b.1)
  | [], _, h => h
  | x :: r, acc, h => by
    unfold refGo
    split
    · exact h
    · cases ha : acc.any (fun y => decide (y.1 = x.1)) with
      | true => exact refGo_sorted n r acc h
      | false => exact refGo_sorted n r _ (insF_sorted h (any_false ha))
theorem flgGo_perm (n : Int) : ∀ (L : List P3) (a b : List F2), a.Perm b → (flgGo n a L).Perm (refGo n b L)
  | [], _, _, h => h
  | x :: r, a, b, h => by
    unfold flgGo refGo
    have e : a.any (fun y => decide (y.1 = x.1)) = b.any (fun y => decide (y.1 = x.1)) := h.any_eq
    rw [e]
    split
    · exact h
    · cases hb : b.any (fun y => decide (y.1 = x.1)) with
      | true => exact flgGo_perm n r a b h
      | false => exact flgGo_perm n r _ _ ((h.append_right _).trans ((List.perm_append_comm (l₁ := b)).trans (insF_perm _ b).symm))
theorem sorted_eq : ∀ {l m : List F2}, l.Perm m → l.Pairwise (fun a b => a.1 ≤ b.1) → m.Pairwise (fun a b => a.1 < b.1) → l = m
  | [], m, h, _, _ => h.nil_eq
  | x :: r, [], h, _, _ => absurd h.symm.nil_eq (by simp)
  | x :: r, y :: s, h, hl, hm => by
    rw [List.pairwise_cons] at hl hm
    have e : x = y := by
      have hx : x ∈ y :: s := h.mem_iff.1 (by simp)
      have hy : y ∈ x :: r := h.mem_iff.2 (by simp)
      rcases List.mem_cons.1 hx with e | hx
      · exact e
      rcases List.mem_cons.1 hy with e | hy
      · exact e.symm
      have h1 := hm.1 x hx
      have h2 := hl.1 y hy
      omega
    subst e
    rw [sorted_eq (h.cons_inv) hl.2 hm.2]
theorem flags_sorted {E : List Ev} {R : List Int} {n : Int} {l : List F2} (h : (flgGo n [] (racesN E R E.length)).Perm l) (hs : l.Pairwise (fun a b => a.1 ≤ b.1)) : l = flagsV E R n :=
  sorted_eq (h.symm.trans (flgGo_perm n _ [] [] (.refl _))) hs (refGo_sorted n _ [] .nil)
theorem flgGo_le (n : Int) : ∀ (L : List P3) (a : List F2), (flgGo n a L).length ≤ a.length + L.length
  | [], _ => by simp [flgGo]
  | x :: r, a => by
    unfold flgGo
    split
    · simp
    · split
      · have := flgGo_le n r a; simp; omega
      · have := flgGo_le n r (a ++ [(x.1, (x.2.2 : Int))]); simp at this ⊢; omega
theorem flgGo_mem (n : Int) : ∀ (L : List P3) (a : List F2) (z : F2), z ∈ flgGo n a L → z ∈ a ∨ ∃ x ∈ L, z = (x.1, (x.2.2 : Int))
  | [], _, z, h => .inl h
  | x :: r, a, z, h => by
    unfold flgGo at h
    split at h
    · exact .inl h
    · split at h
      · rcases flgGo_mem n r a z h with h | ⟨y, hy, e⟩
        · exact .inl h
        · exact .inr ⟨y, by simp [hy], e⟩
      · rcases flgGo_mem n r _ z h with h | ⟨y, hy, e⟩
        · rcases List.mem_append.1 h with h | h
          · exact .inl h
          · exact .inr ⟨x, by simp, by simpa using h⟩
        · exact .inr ⟨y, by simp [hy], e⟩
theorem flgGo_step (n : Int) (acc : List F2) (x : P3) (r : List P3) (h : ¬ n ≤ (x.2.2 : Int)) : flgGo n acc (x :: r) = flgGo n (if acc.any (fun y => decide (y.1 = x.1)) then acc else acc ++ [(x.1, (x.2.2 : Int))]) r := by
  rw [flgGo, if_neg h]
theorem flgGo_stop (n : Int) (acc : List F2) (x : P3) (r : List P3) (h : n ≤ (x.2.2 : Int)) : flgGo n acc (x :: r) = acc := by
  rw [flgGo, if_pos h]
end Go.Vc
