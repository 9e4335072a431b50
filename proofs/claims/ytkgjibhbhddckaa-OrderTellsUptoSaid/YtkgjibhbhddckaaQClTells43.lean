/- order: the lists that are told are the caller's own. -/
import Derived.Test.YtkgjibhbhddckaaQClTells42
import Derived.Test.YtkgjibhbhddckaaQClTells36
import Derived.Shelf.SlSortCmp.NoneTotal
import Derived.Test.YtkgjibhbhddckaaProg
namespace Go.Vc
open Go Go.Proofs
set_option maxRecDepth 10000
variable {w : World}
theorem OwnS.recA {α : Type} {f : α → List Value} {m : Nat} {T : TypeId} {ad : Option Addr} {cap n : Nat} {l : List α} (h : OwnS w T m ad n cap (l.flatMap f)) (hn : l.length = n) (hf : ∀ x, (f x).length = m) (h0 : 0 < m) {i : Nat} {x : α} (hx : l[i]? = some x) (j : Nat) (v : Value) (y : α) (hj : j < m) (hy : f y = (f x).set j v) :
    ∃ b L, ad = some ⟨b, 0, none⟩ ∧ Blk w b L T ∧ i * m + j < L.length ∧ ∀ w', Upd w b (.cells ⟨L.set (i * m + j) v⟩ T (0, 0)) w' → OwnS w' T m ad n cap ((l.set i y).flatMap f) := by
  subst hn
  have hi := (List.getElem?_eq_some_iff.1 hx).1
  obtain ⟨b, L, h1, h2, h3, h4, h5⟩ := h.rec hf h0 hi
  refine ⟨b, L, h1, h2, by omega, fun w' hu => h5 y w' ?_⟩
  rw [hy, set_many_cell L (h4 x hx) (by rw [hf]; omega) (by rw [hf]; omega)]
  exact hu
theorem set_old {α : Type} {l : List α} {i k : Nat} {y x : α} (h : (l.set i y)[k]? = some x) : (k = i ∧ x = y) ∨ (k ≠ i ∧ l[k]? = some x) := by
  rw [List.getElem?_set] at h
  by_cases q : i = k
  · subst q
    rw [if_pos rfl] at h
    split at h
    · exact .inl ⟨rfl, by simpa using h.symm⟩
    · cases h
  · rw [if_neg q] at h
    exact .inr ⟨fun e => q e.symm, h⟩
section
variable {pa pb : Option Addr} {F : List Nat} {E : List Ev} {R : List Int}
set_option maxHeartbeats 25600000 in
theorem lists20_yes (hS : SortF) (hA : OX w pa F E R) (hB : RaV w (.pointer pb) E R) (hv : ∀ x ∈ racesN E R E.length, 0 ≤ x.1 ∧ x.1 ≤ 1048576) : Ret Try.prog 45 [.pointer pa, .pointer pb] w (fun v w' => v = .bool true ∧ Kp [] w w') := by
  have hsm := racesN_small R hA.small
  have hle := onV_le 0 (racesN E R E.length)
  have hfl : (flagsV E R (E.length : Nat)).length ≤ 4194304 := by
    have := refGo_le (E.length : Nat) (racesN E R E.length) []
    unfold flagsV; simp at this; omega
  refine enter Try.call45 Try.func45 rfl rfl rfl rfl ?_
  (repeat first|refine zA ?_|refine zg ?_|refine zo rfl rfl trivial ?_|refine zn ?_)
  refine o_call (xRaces_ret hA 0) rfl rfl rfl ?_
  rintro v w1 ⟨ad, cap, rfl, ho1, k1, hn1⟩
  (repeat first|refine zA ?_|refine zg ?_|refine zo rfl rfl trivial ?_|refine zn ?_)
  refine o_call (xRaces_ret (hA.kp0 k1) 0) rfl rfl rfl ?_
  rintro v w2 ⟨adt, capt, rfl, ho2, k2, hn2⟩
  have k02 := k1.trans k2
  (repeat first|refine zA ?_|refine zg ?_|refine zo rfl rfl trivial ?_|refine zn ?_)
  refine o_call (xLen_ret (hA.kp0 k02)) rfl rfl rfl ?_
  rintro v w2' ⟨rfl, rfl⟩
  refine o_call (xFlags_ret hS (hA.kp0 k02) hv (E.length : Nat)) rfl rfl rfl ?_
  rintro v w3 ⟨adf, capf, rfl, ho3, k3, hn3⟩
  have k03 := k02.trans k3
  (repeat first|refine zA ?_|refine zg ?_|refine zo rfl rfl trivial ?_|refine zn ?_)
  refine o_call (xLen_ret (hA.kp0 k03)) rfl rfl rfl ?_
  rintro v w3' ⟨rfl, rfl⟩
  refine o_call (xFlags_ret hS (hA.kp0 k03) hv (E.length : Nat)) rfl rfl rfl ?_
  rintro v w4 ⟨adg, capg, rfl, ho4, k4, hn4⟩
  have k04 := k03.trans k4
  have z1 := k1.size
  have z2 := k2.size
  have z3 := k3.size
  have z4 := k4.size
  have hr4 := ((ho1.kp k2 (by simp)).kp k3 (by simp)).kp k4 (by simp)
  have ht4 := ((ho2.kp k3 (by simp)).kp k4 (by simp)).readN
  have hf4 := ho3.kp k4 (by simp)
  have hg4 := ho4.readN
  have lr := ho1.lt
  have lt := ho2.lt
  have lf := ho3.lt
  have lg := ho4.lt
  clear ho1 ho2 ho3 ho4
  generalize hrL : onV 0 (racesN E R E.length) = rl at *
  generalize hfL : flagsV E R (E.length : Nat) = fl at *
  have hrl : rl.length ≤ 4194304 := by omega
  (repeat first|refine zA ?_|refine zB ?_|refine zg ?_|refine zo rfl rfl trivial ?_|refine zn ?_|refine zb ?_)
  refine r_loop (α := Nat) [0, 1, 5, 6, 7, 8, 9] (fun i => [.pointer pa, .pointer pb, .slice ad rl.length cap, .slice adt rl.length capt, .slice adf fl.length capf, .slice adg fl.length capg, I i])
    (fun i W => i ≤ rl.length ∧ ∃ xs : List P3, xs.length = rl.length ∧ (∀ k x, k < i → xs[k]? = some x → x.1 = -5) ∧ OwnS W 53 3 ad rl.length cap (prsC xs) ∧ Kp (blkOf ad) w4 W) (fun i => rl.length - i) 0 rfl ⟨by omega, rl, rfl, fun k x hk => by omega, hr4, Kp.refl _ _⟩ ?_
  rintro i e W ⟨hi, xs, hxl, hxv, hO, hk⟩
  (repeat first|refine zA ?_|refine zB ?_|refine zg ?_|refine zo rfl rfl trivial ?_|refine zn ?_)
  refine r_if rfl (fun hc => ?_) (fun hc => ?_)
  · obtain ⟨x, hx⟩ : ∃ x, xs[i]? = some x := ⟨_, List.getElem?_eq_getElem (by omega)⟩
    obtain ⟨b, L, rfl, hBL, hiL, hwr⟩ := OwnS.recA (f := pairC) hO hxl (fun _ => rfl) (by decide) hx 0 (I (-5)) (-5, x.2) (by decide) rfl
    (repeat first|refine zC ?_|refine zg ?_|refine zo rfl rfl (by first|exact trivial|(simp only[AllP];omega)) ?_|refine zb ?_|refine zk ?_)
    refine o_store (b := b) (off := i * 3 + 0) (v := I (-5)) (by simp only [Int.toNat_natCast, Nat.zero_add, Nat.add_zero]; rfl) hBL hiL rfl rfl rfl rfl rfl rfl ?_
    intro W2 hu
    have ho2 := hwr W2 hu
    (repeat first|refine zg ?_|refine zo rfl rfl (by first|exact trivial|(simp only[AllP];omega)) ?_|refine zn ?_)
    refine ⟨i + 1, rfl, ⟨by omega, xs.set i (-5, x.2), by simp [hxl], fun k y hk' hy => ?_, ho2, hk.trans (hu.kp _ (.inl (by simp [blkOf])))⟩, by omega⟩
    rcases set_old hy with ⟨_, rfl⟩ | ⟨h1, h2⟩
    · rfl
    · exact hxv k y (by omega) h2
  have hil : i = rl.length := by omega
  have hxv' : ∀ x ∈ xs, x.1 = -5 := fun x hx => by
    obtain ⟨k, hk'⟩ := List.getElem?_of_mem hx
    exact hxv k x (by have := (List.getElem?_eq_some_iff.1 hk').1; omega) hk'
  clear hxv hc hi
  have hf5 := hf4.kp hk (fun b hb hb2 => by have := hn3 b hb; have := lr b hb2; omega)
  (repeat first|refine zA ?_|refine zB ?_|refine zg ?_|refine zo rfl rfl trivial ?_|refine zn ?_|refine zb ?_|refine ze rfl ?_)
  refine r_loop (α := Nat) [0, 1, 5, 6, 7, 8, 10] (fun i => [.pointer pa, .pointer pb, .slice ad rl.length cap, .slice adt rl.length capt, .slice adf fl.length capf, .slice adg fl.length capg, I i])
    (fun i W' => i ≤ fl.length ∧ ∃ ys : List F2, ys.length = fl.length ∧ (∀ k x, k < i → ys[k]? = some x → x.1 = -6) ∧ OwnS W' 68 2 adf fl.length capf (flgsC ys) ∧ Kp (blkOf adf) W W') (fun i => fl.length - i) 0 rfl ⟨by omega, fl, rfl, fun k x hk => by omega, hf5, Kp.refl _ _⟩ ?_
  rintro i2 e W2 ⟨hi2, ys, hyl, hyv, hOf, hk2⟩
  (repeat first|refine zA ?_|refine zB ?_|refine zg ?_|refine zo rfl rfl trivial ?_|refine zn ?_)
  refine r_if rfl (fun hc => ?_) (fun hc => ?_)
  · obtain ⟨x, hx⟩ : ∃ x, ys[i2]? = some x := ⟨_, List.getElem?_eq_getElem (by omega)⟩
    obtain ⟨b, L, rfl, hBL, hiL, hwr⟩ := OwnS.recA (f := flgC) hOf hyl (fun _ => rfl) (by decide) hx 0 (I (-6)) (-6, x.2) (by decide) rfl
    (repeat first|refine zC ?_|refine zg ?_|refine zo rfl rfl (by first|exact trivial|(simp only[AllP];omega)) ?_|refine zb ?_|refine zk ?_)
    refine o_store (b := b) (off := i2 * 2 + 0) (v := I (-6)) (by simp only [Int.toNat_natCast, Nat.zero_add, Nat.add_zero]; rfl) hBL hiL rfl rfl rfl rfl rfl rfl ?_
    intro W3 hu
    have ho2 := hwr W3 hu
    (repeat first|refine zg ?_|refine zo rfl rfl (by first|exact trivial|(simp only[AllP];omega)) ?_|refine zn ?_)
    refine ⟨i2 + 1, rfl, ⟨by omega, ys.set i2 (-6, x.2), by simp [hyl], fun k y hk' hy => ?_, ho2, hk2.trans (hu.kp _ (.inl (by simp [blkOf])))⟩, by omega⟩
    rcases set_old hy with ⟨_, rfl⟩ | ⟨h1, h2⟩
    · rfl
    · exact hyv k y (by omega) h2
  have hyv' : ∀ x ∈ ys, x.1 = -6 := fun x hx => by
    obtain ⟨k, hk'⟩ := List.getElem?_of_mem hx
    exact hyv k x (by have := (List.getElem?_eq_some_iff.1 hk').1; omega) hk'
  clear hyv hc hi2 hr4 hf4 hf5
  have yk := hk.size
  have yk2 := hk2.size
  have hO2 := hO.kp hk2 (fun b hb hb2 => by have := hn3 b hb2; have := lr b hb; omega)
  have hkk : Kp (blkOf ad ++ blkOf adf) w4 W2 := (hk.mono (fun b hb => by simp [hb])).trans (hk2.mono (fun b hb => by simp [hb]))
  have gr : Gw W2 53 3 pairC ad xs ad cap xs := Gw.of (by rw [hxl]; exact hO2)
  have gf : Gw W2 68 2 flgC adf ys adf capf ys := Gw.of (by rw [hyl]; exact hOf)
  clear hO hO2 hOf
  (repeat first|refine zA ?_|refine zB ?_|refine zg ?_|refine zo rfl rfl trivial ?_|refine zn ?_|refine zb ?_|refine ze rfl ?_)
  refine r_loop (α := Nat × (Option Addr × Nat) × Option Addr × Nat) [0, 1, 5, 6, 7, 8, 11, 12, 13] (fun x => [.pointer pa, .pointer pb, .slice ad rl.length cap, .slice adt rl.length capt, .slice adf fl.length capf, .slice adg fl.length capg, .slice x.2.1.1 (rl.length + x.1) x.2.1.2, .slice x.2.2.1 (fl.length + x.1) x.2.2.2, I x.1])
    (fun x W' => x.1 ≤ 70 ∧ (∃ ms : List P3, ms.length = rl.length + x.1 ∧ (∀ y ∈ ms, y.1 = -5) ∧ Gw W' 53 3 pairC ad xs x.2.1.1 x.2.1.2 ms) ∧ (∃ ms : List F2, ms.length = fl.length + x.1 ∧ (∀ y ∈ ms, y.1 = -6) ∧ Gw W' 68 2 flgC adf ys x.2.2.1 x.2.2.2 ms) ∧ Kp (blkOf ad ++ blkOf adf) w4 W' ∧
      (∀ b, b ∈ blkOf x.2.1.1 → b ∈ blkOf ad ∨ w4.heap.size ≤ b) ∧ (∀ b, b ∈ blkOf x.2.2.1 → b ∈ blkOf adf ∨ w4.heap.size ≤ b) ∧ ∀ b, b ∈ blkOf x.2.1.1 → b ∉ blkOf x.2.2.1) (fun x => 70 - x.1) (0, (ad, cap), (adf, capf)) rfl
    ⟨by dsimp only; omega, ⟨xs, by simpa using hxl, hxv', gr⟩, ⟨ys, by simpa using hyl, hyv', gf⟩, hkk, fun b hb => .inl hb, fun b hb => .inl hb, fun b hb hb2 => by have := lr b hb; have := hn3 b hb2; omega⟩ ?_
  clear gr gf hkk
  rintro ⟨i3, ⟨ax, cx⟩, ⟨ay, cy⟩⟩ e W3 ⟨hi3, ⟨ms, hml, hmv, gr⟩, ⟨mf, hfl3, hfv, gf⟩, hk3, nx, ny, nxy⟩
  dsimp only at hi3 hml gr hfl3 gf nx ny nxy ⊢
  have z5 := hk3.size
  (repeat first|refine zA ?_|refine zB ?_|refine zg ?_|refine zo rfl rfl trivial ?_|refine zn ?_)
  refine r_if rfl (fun hc => ?_) (fun hc => ?_)
  · (repeat first|refine zA ?_|refine zC ?_|refine zg ?_|refine zo rfl rfl trivial ?_|refine zb ?_|refine zk ?_)
    refine o_build (pairC (-5, 0, 0)) rfl rfl rfl rfl rfl rfl rfl ?_
    refine o_buildSliceN (pairC (-5, 0, 0)) rfl rfl rfl (by kernel_rfl) rfl rfl rfl rfl ?_
    intro b5 w5 hb5 hu5
    have k5 : Kp [] W3 w5 := hu5.kp [] (.inr (by omega))
    have gr5 := gr.kp k5 (by simp) (by simp)
    have gf5 := gf.kp k5 (by simp) (by simp)
    have own5 := gr5.own
    rw [hml] at own5
    refine o_appendK (pairC (-5, 0, 0)) rfl rfl own5 (fun m v hv => by rw [addr_lit, Nat.zero_add]; exact hu5.blk.cell hv) rfl rfl rfl (by omega) rfl (by omega) (by simp [Value.oneCell']) (by simp only [maxLen]; omega) (by omega) rfl rfl ?_
    intro ax' cx' w6 ho6 k6 hn6 hq6
    have gr6 := Gw.push (f := pairC) (m := 3) (x := (-5, 0, 0)) (fun _ => rfl) gr5 (by rw [hml]; exact ho6) k6 hq6
    have z6 := k5.size
    have z7 := k6.size
    have lyW : ∀ b, b ∈ blkOf ay → b < W3.heap.size := gf.own.lt
    have lxW : ∀ b, b ∈ blkOf ax → b < W3.heap.size := gr.own.lt
    have gf6 := gf5.kp k6 (fun b hb hb2 => nxy b hb2 hb) (fun b hb hb2 => by
      rcases nx b hb2 with q | q
      · have := lr b q; have := hn3 b hb; omega
      · have := lf b hb; omega)
    have nx6 : ∀ b, b ∈ blkOf ax' → b ∈ blkOf ax ∨ W3.heap.size ≤ b := fun b hb => by
      rcases hn6 b hb with q | q
      · exact .inl q
      · exact .inr (by omega)
    have k46 : Kp (blkOf ad ++ blkOf adf) w4 w6 := (hk3.trans (k5.mono (by simp))).after k6 (fun b hb => by
      rcases nx b hb with q | q
      · exact .inl (List.mem_append_left _ q)
      · exact .inr q)
    (repeat first|refine zg ?_|refine zo rfl rfl trivial ?_|refine zn ?_)
    refine o_build (flgC (-6, 0)) rfl rfl rfl rfl rfl rfl rfl ?_
    refine o_buildSliceN (flgC (-6, 0)) rfl rfl rfl (by kernel_rfl) rfl rfl rfl rfl ?_
    intro b7 w7 hb7 hu7
    have k7 : Kp [] w6 w7 := hu7.kp [] (.inr (by omega))
    have gr7 := gr6.kp k7 (by simp) (by simp)
    have gf7 := gf6.kp k7 (by simp) (by simp)
    have own7 := gf7.own
    rw [hfl3] at own7
    refine o_appendK (flgC (-6, 0)) rfl rfl own7 (fun m v hv => by rw [addr_lit, Nat.zero_add]; exact hu7.blk.cell hv) rfl rfl rfl (by omega) rfl (by omega) (by simp [Value.oneCell']) (by simp only [maxLen]; omega) (by omega) rfl rfl ?_
    intro ay' cy' w8 ho8 k8 hn8 hq8
    have gf8 := Gw.push (f := flgC) (m := 2) (x := (-6, 0)) (fun _ => rfl) gf7 (by rw [hfl3]; exact ho8) k8 hq8
    have z8 := k7.size
    have gr8 := gr7.kp k8 (fun b hb hb2 => by
      rcases nx6 b hb with q | q
      · exact nxy b q hb2
      · have := lyW b hb2; omega) (fun b hb hb2 => by
      rcases ny b hb2 with q | q
      · have := lr b hb; have := hn3 b q; omega
      · have := lr b hb; omega)
    (repeat first|refine zg ?_|refine zo rfl rfl (by first|exact trivial|(simp only[AllP];omega)) ?_|refine zn ?_)
    refine ⟨(i3 + 1, (ax', cx'), (ay', cy')), rfl, ⟨by dsimp only; omega, ⟨ms ++ [(-5, 0, 0)], by simp; omega, fun y hy => ?_, gr8⟩, ⟨mf ++ [(-6, 0)], by simp; omega, fun y hy => ?_, gf8⟩, (k46.trans (k7.mono (by simp))).after k8 (fun b hb => ?_), fun b hb => ?_, fun b hb => ?_, fun b hb hb2 => ?_⟩, by dsimp only; omega⟩
    · rcases List.mem_append.1 hy with hy | hy
      · exact hmv y hy
      · simp at hy; subst hy; rfl
    · rcases List.mem_append.1 hy with hy | hy
      · exact hfv y hy
      · simp at hy; subst hy; rfl
    · rcases ny b hb with q | q
      · exact .inl (List.mem_append_right _ q)
      · exact .inr q
    · rcases nx6 b hb with q | q
      · exact nx b q
      · exact .inr (by omega)
    · rcases hn8 b hb with q | q
      · exact ny b q
      · exact .inr (by omega)
    · have hx9 : b < w6.heap.size := gr6.own.lt b hb
      rcases hn8 b hb2 with q | q
      · rcases nx6 b hb with q2 | q2
        · exact nxy b q2 q
        · have := lyW b q; omega
      · omega
  have hml70 : ms.length = rl.length + i3 := hml
  have hcx := gr.own.readN
  have hcy := gf.own.readN
  have hrx := gr.read
  have hry := gf.read
  (repeat first|refine zA ?_|refine zB ?_|refine zg ?_|refine zo rfl rfl trivial ?_|refine zn ?_|refine zb ?_|refine ze rfl ?_)
  refine r_loop (α := Nat) [0, 1, 5, 6, 7, 8, 11, 12, 14] (fun i => [.pointer pa, .pointer pb, .slice ad rl.length cap, .slice adt rl.length capt, .slice adf fl.length capf, .slice adg fl.length capg, .slice ax (rl.length + i3) cx, .slice ay (fl.length + i3) cy, I i]) (fun i W' => i ≤ rl.length + i3 ∧ W' = W3) (fun i => rl.length + i3 - i) 0 rfl ⟨by omega, rfl⟩ ?_
  rintro j e W' ⟨hj, rfl⟩
  (repeat first|refine zA ?_|refine zB ?_|refine zg ?_|refine zo rfl rfl trivial ?_|refine zn ?_)
  refine r_if rfl (fun hc2 => ?_) (fun hc2 => ?_)
  · obtain ⟨x, hx⟩ : ∃ x, ms[j]? = some x := ⟨_, List.getElem?_eq_getElem (by omega)⟩
    have hx5 := hmv x (List.mem_of_getElem? hx)
    obtain ⟨b3, o3, rfl, _, hcell⟩ := hcx.at_ (by rw [flC_len (f := pairC) (m := 3) (fun _ => rfl)]; omega)
    (repeat first|refine zA ?_|refine zC ?_|refine zg ?_|refine zo rfl rfl (by first|exact trivial|(simp only[AllP];omega)) ?_|refine zb ?_|refine zk ?_)
    refine o_loadc (b := b3) (off := o3 + j * 3 + 0) (v := I (-5)) rfl (by rw [Nat.add_assoc]; exact hcell _ _ (flC_get (f := pairC) (m := 3) (fun _ => rfl) hx (j := 0) (by rw [← hx5]; rfl))) rfl rfl rfl rfl ?_
    (repeat first|refine zo rfl rfl trivial ?_|refine zU rfl rfl rfl ?_)
    by_cases hjr : j < rl.length
    · obtain ⟨y, hy⟩ : ∃ y, xs[j]? = some y := ⟨_, List.getElem?_eq_getElem (by omega)⟩
      have hy5 := hxv' y (List.mem_of_getElem? hy)
      obtain ⟨b4, o4, rfl, _, hcell4⟩ := hrx.at_ (by rw [flC_len (f := pairC) (m := 3) (fun _ => rfl)]; omega)
      refine o_is true 11 true rfl rfl rfl (by simp; omega) ?_
      (repeat refine zo rfl rfl (by first|exact trivial|(simp only[AllP];omega)) ?_)
      refine o_loadc (b := b4) (off := o4 + j * 3 + 0) (v := I (-5)) rfl (by rw [Nat.add_assoc]; exact hcell4 _ _ (flC_get (f := pairC) (m := 3) (fun _ => rfl) hy (j := 0) (by rw [← hy5]; rfl))) rfl rfl rfl rfl ?_
      (repeat first|refine zg ?_|refine zo rfl rfl (by first|exact trivial|(simp only[AllP];omega)) ?_|refine zn ?_|refine zk ?_|refine zf rfl ?_)
      exact ⟨j + 1, rfl, ⟨by omega, rfl⟩, by omega⟩
    · refine o_is false 11 true rfl rfl rfl (by simp; omega) ?_
      (repeat first|refine zg ?_|refine zo rfl rfl (by first|exact trivial|(simp only[AllP];omega)) ?_|refine zn ?_|refine zk ?_|refine zf rfl ?_)
      exact ⟨j + 1, rfl, ⟨by omega, rfl⟩, by omega⟩
  (repeat first|refine zA ?_|refine zB ?_|refine zg ?_|refine zo rfl rfl trivial ?_|refine zn ?_|refine zb ?_|refine ze rfl ?_)
  refine r_loop (α := Nat) [0, 1, 5, 6, 7, 8, 11, 12, 15] (fun i => [.pointer pa, .pointer pb, .slice ad rl.length cap, .slice adt rl.length capt, .slice adf fl.length capf, .slice adg fl.length capg, .slice ax (rl.length + i3) cx, .slice ay (fl.length + i3) cy, I i]) (fun i W'' => i ≤ fl.length + i3 ∧ W'' = W') (fun i => fl.length + i3 - i) 0 rfl ⟨by omega, rfl⟩ ?_
  rintro j2 e W'' ⟨hj2, rfl⟩
  (repeat first|refine zA ?_|refine zB ?_|refine zg ?_|refine zo rfl rfl trivial ?_|refine zn ?_)
  refine r_if rfl (fun hc2 => ?_) (fun hc2 => ?_)
  · obtain ⟨x, hx⟩ : ∃ x, mf[j2]? = some x := ⟨_, List.getElem?_eq_getElem (by omega)⟩
    have hx5 := hfv x (List.mem_of_getElem? hx)
    obtain ⟨b3, o3, rfl, _, hcell⟩ := hcy.at_ (by rw [flC_len (f := flgC) (m := 2) (fun _ => rfl)]; omega)
    (repeat first|refine zA ?_|refine zC ?_|refine zg ?_|refine zo rfl rfl (by first|exact trivial|(simp only[AllP];omega)) ?_|refine zb ?_|refine zk ?_)
    refine o_loadc (b := b3) (off := o3 + j2 * 2 + 0) (v := I (-6)) rfl (by rw [Nat.add_assoc]; exact hcell _ _ (flC_get (f := flgC) (m := 2) (fun _ => rfl) hx (j := 0) (by rw [← hx5]; rfl))) rfl rfl rfl rfl ?_
    (repeat first|refine zo rfl rfl trivial ?_|refine zU rfl rfl rfl ?_)
    by_cases hjr : j2 < fl.length
    · obtain ⟨y, hy⟩ : ∃ y, ys[j2]? = some y := ⟨_, List.getElem?_eq_getElem (by omega)⟩
      have hy5 := hyv' y (List.mem_of_getElem? hy)
      obtain ⟨b4, o4, rfl, _, hcell4⟩ := hry.at_ (by rw [flC_len (f := flgC) (m := 2) (fun _ => rfl)]; omega)
      refine o_is true 11 true rfl rfl rfl (by simp; omega) ?_
      (repeat refine zo rfl rfl (by first|exact trivial|(simp only[AllP];omega)) ?_)
      refine o_loadc (b := b4) (off := o4 + j2 * 2 + 0) (v := I (-6)) rfl (by rw [Nat.add_assoc]; exact hcell4 _ _ (flC_get (f := flgC) (m := 2) (fun _ => rfl) hy (j := 0) (by rw [← hy5]; rfl))) rfl rfl rfl rfl ?_
      (repeat first|refine zg ?_|refine zo rfl rfl (by first|exact trivial|(simp only[AllP];omega)) ?_|refine zn ?_|refine zk ?_|refine zf rfl ?_)
      exact ⟨j2 + 1, rfl, ⟨by omega, rfl⟩, by omega⟩
    · refine o_is false 11 true rfl rfl rfl (by simp; omega) ?_
      (repeat first|refine zg ?_|refine zo rfl rfl (by first|exact trivial|(simp only[AllP];omega)) ?_|refine zn ?_|refine zk ?_|refine zf rfl ?_)
      exact ⟨j2 + 1, rfl, ⟨by omega, rfl⟩, by omega⟩
  -- what is told once more
  have hnS : ∀ b, b ∈ blkOf ad ++ blkOf adf → w.heap.size ≤ b := fun b hb => by
    rcases List.mem_append.1 hb with hb | hb
    · exact hn1 b hb
    · have := hn3 b hb; omega
  have kw : Kp [] w W'' := k04.since hk3 hnS
  have ht' := ht4.kp hk3 (fun b hb hb2 => by
    rcases List.mem_append.1 hb2 with q | q
    · have := hn2 b hb; have := lr b q; omega
    · have := lt b hb; have := hn3 b q; omega)
  have hg' := hg4.kp hk3 (fun b hb hb2 => by
    rcases List.mem_append.1 hb2 with q | q
    · have := hn4 b hb; have := lr b q; omega
    · have := hn4 b hb; have := lf b q; omega)
  (repeat first|refine zA ?_|refine zg ?_|refine zo rfl rfl trivial ?_|refine ze rfl ?_)
  refine o_call (yRaces_ret (hB.kp0 kw) 0) rfl rfl rfl ?_
  rintro v w5 ⟨a5, c5, rfl, ho5, k5, _⟩
  rw [hrL] at ho5 ⊢
  refine o_call (samePairs_yes (l := rl) (ht'.kp k5 (by simp)) ho5.readN rfl rfl (by omega)) rfl rfl rfl ?_
  rintro v w6 ⟨rfl, s6⟩
  have k6 := kw.trans (k5.trans (s6.kp []))
  have hg6 := hg'.kp (k5.trans (s6.kp [])) (by simp)
  (repeat first|refine zo rfl rfl trivial ?_|refine zT rfl rfl rfl ?_)
  refine o_call (yLen_ret (hB.kp0 k6)) rfl rfl rfl ?_
  rintro v w7 ⟨rfl, rfl⟩
  refine o_call (yFlags_ret (hB.kp0 k6) (E.length : Nat)) rfl rfl rfl ?_
  rintro v w8 ⟨a8, c8, rfl, ho8, k8, _⟩
  rw [hfL] at ho8 ⊢
  refine o_call (sameFlags20_yes (l := fl) (hg6.kp k8 (by simp)) ho8.readN rfl rfl (by omega)) rfl rfl rfl ?_
  rintro v w9 ⟨rfl, s9⟩
  have k9 := k6.trans (k8.trans (s9.kp []))
  (repeat first|refine zo rfl rfl trivial ?_|refine zT rfl rfl rfl ?_)
  refine o_call (xRaces_ret (hA.kp0 k9) 0) rfl rfl rfl ?_
  rintro v w10 ⟨a10, c10, rfl, ho10, k10, _⟩
  have k010 := k9.trans k10
  rw [hrL] at ho10 ⊢
  (repeat refine zo rfl rfl trivial ?_)
  refine o_call (yRaces_ret (hB.kp0 k010) 0) rfl rfl rfl ?_
  rintro v w11 ⟨a11, c11, rfl, ho11, k11, _⟩
  rw [hrL] at ho11 ⊢
  refine o_call (samePairs_yes (l := rl) (ho10.kp k11 (by simp)).readN ho11.readN rfl rfl (by omega)) rfl rfl rfl ?_
  rintro v w12 ⟨rfl, s12⟩
  have k012 := k010.trans (k11.trans (s12.kp []))
  (repeat first|refine zo rfl rfl trivial ?_|refine zT rfl rfl rfl ?_)
  refine o_call (xAll_ret (hA.kp0 k012)) rfl rfl rfl ?_
  rintro v w13 ⟨bx, hseq, k13, _⟩
  have hq := hseq.is
  obtain ⟨fi, lb, rfl, _⟩ := hq
  refine o_call (gone20_ret hseq hsm (-1)) rfl rfl rfl ?_
  rintro v w14 ⟨a14, c14, rfl, ho14, k14, _⟩
  rw [gonP_all] at ho14 ⊢
  have k014 := (k012.trans k13).trans k14
  (repeat refine zo rfl rfl trivial ?_)
  refine o_call (yAll_ret (hB.kp0 k014)) rfl rfl rfl ?_
  rintro v w15 ⟨a15, c15, rfl, ho15, k15, _⟩
  refine o_call (samePairs_yes (l := racesN E R E.length) (ho14.kp k15 (by simp)).readN ho15.readN rfl rfl (by omega)) rfl rfl rfl ?_
  rintro v w16 ⟨rfl, s16⟩
  (repeat first|refine zo rfl rfl trivial ?_|refine zn ?_|refine zr ?_)
  exact ⟨_, rfl, rfl, k014.trans (k15.trans (s16.kp []))⟩
end
end Go.Vc
/- slices.SortFunc at flags: the shelf's structure at this dump, in plain words (printed by the kit's lay-plain.mjs: see NOTES). -/
namespace Go.Proofs
open Go.Shelf
def Try.sortFlag_ren : Go.Shelf.Ren := ⟨fun | 6 => 67 | 15 => 91 | 14 => 90 | 28 => 104 | 29 => 105 | 20 => 96 | 21 => 97 | 22 => 98 | 23 => 99 | 24 => 100 | 25 => 101 | 26 => 102 | 27 => 103 | 46 => 106 | 47 => 107 | 48 => 108 | 49 => 109 | 50 => 110 | 57 => 111 | n => n, fun | 22 => 42 | 24 => 68 | 25 => 121 | 3 => 3 | 39 => 144 | 0 => 0 | 53 => 153 | 55 => 136 | 4 => 4 | 46 => 147 | 45 => 146 | 50 => 116 | 5 => 5 | 9 => 9 | 66 => 155 | 70 => 159 | 76 => 161 | 77 => 162 | n => n, fun | n => n⟩
theorem Try.sortFlag : Go.Proofs.SlLaysF0.n6 Try.prog Try.sortFlag_ren := {
  mixed := by kernel_rfl
  f6 := ⟨Try.f67.name, by decide, Try.func67.trans (congrArg some (by kernel_rfl))⟩
  f14 := ⟨Try.f90.name, by decide, Try.func90.trans (congrArg some (by kernel_rfl))⟩
  f15 := Try.func91.trans (congrArg some (by kernel_rfl))
  f20 := ⟨Try.f96.name, by decide, Try.func96.trans (congrArg some (by kernel_rfl))⟩
  f21 := ⟨Try.f97.name, by decide, Try.func97.trans (congrArg some (by kernel_rfl))⟩
  f22 := ⟨Try.f98.name, by decide, Try.func98.trans (congrArg some (by kernel_rfl))⟩
  f23 := ⟨Try.f99.name, by decide, Try.func99.trans (congrArg some (by kernel_rfl))⟩
  f24 := ⟨Try.f100.name, by decide, Try.func100.trans (congrArg some (by kernel_rfl))⟩
  f25 := ⟨Try.f101.name, by decide, Try.func101.trans (congrArg some (by kernel_rfl))⟩
  f26 := ⟨Try.f102.name, by decide, Try.func102.trans (congrArg some (by kernel_rfl))⟩
  f27 := ⟨Try.f103.name, by decide, Try.func103.trans (congrArg some (by kernel_rfl))⟩
  f28 := Try.func104.trans (congrArg some (by kernel_rfl))
  f29 := Try.func105.trans (congrArg some (by kernel_rfl))
  f46 := ⟨Try.f106.name, by decide, Try.func106.trans (congrArg some (by kernel_rfl))⟩
  f47 := Try.func107.trans (congrArg some (by kernel_rfl))
  f48 := Try.func108.trans (congrArg some (by kernel_rfl))
  f49 := ⟨Try.f109.name, by decide, Try.func109.trans (congrArg some (by kernel_rfl))⟩
  f50 := ⟨Try.f110.name, by decide, Try.func110.trans (congrArg some (by kernel_rfl))⟩
  f57 := ⟨Try.f111.name, by decide, Try.func111.trans (congrArg some (by kernel_rfl))⟩
  t0 := Try.underlying0
  a0 := Try.isAgg0
  z0 := Try.sizeOf0
  v0 := Try.zeroValue0
  t3 := Try.underlying3
  a3 := Try.isAgg3
  z3 := Try.sizeOf3
  v3 := Try.zeroValue3
  t4 := Try.underlying4
  a4 := Try.isAgg4
  z4 := Try.sizeOf4
  v4 := Try.zeroValue4
  t5 := Try.underlying5
  a5 := Try.isAgg5
  z5 := Try.sizeOf5
  v5 := Try.zeroValue5
  t9 := Try.underlying9
  a9 := Try.isAgg9
  z9 := Try.sizeOf9
  v9 := Try.zeroValue9
  t22 := Try.underlying42
  a22 := Try.isAgg42
  z22 := Try.sizeOf42
  v22 := Try.zeroValue42
  t25 := Try.underlying121
  a25 := Try.isAgg121
  z25 := Try.sizeOf121
  v25 := Try.zeroValue121
  t39 := Try.underlying144
  a39 := Try.isAgg144
  z39 := Try.sizeOf144
  v39 := Try.zeroValue144
  t45 := Try.underlying146
  a45 := Try.isAgg146
  z45 := Try.sizeOf146
  v45 := Try.zeroValue146
  t46 := Try.underlying147
  a46 := Try.isAgg147
  z46 := Try.sizeOf147
  v46 := Try.zeroValue147
  t50 := Try.underlying116
  a50 := Try.isAgg116
  z50 := Try.sizeOf116
  v50 := Try.zeroValue116
  t53 := Try.underlying153
  a53 := Try.isAgg153
  z53 := Try.sizeOf153
  v53 := Try.zeroValue153
  t55 := Try.underlying136
  a55 := Try.isAgg136
  z55 := Try.sizeOf136
  v55 := Try.zeroValue136
  t66 := Try.underlying155
  a66 := Try.isAgg155
  z66 := Try.sizeOf155
  v66 := Try.zeroValue155
  t70 := Try.underlying159
  a70 := Try.isAgg159
  z70 := Try.sizeOf159
  v70 := Try.zeroValue159
  t76 := Try.underlying161
  a76 := Try.isAgg161
  z76 := Try.sizeOf161
  v76 := Try.zeroValue161
  t77 := Try.underlying162
  a77 := Try.isAgg162
  z77 := Try.sizeOf162
  v77 := Try.zeroValue162 }
end Go.Proofs
