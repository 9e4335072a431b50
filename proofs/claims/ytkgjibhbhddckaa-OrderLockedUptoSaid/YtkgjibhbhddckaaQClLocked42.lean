/- slices.SortFunc at flags: the shelf's structure at this dump, in plain words (printed by the kit's lay-plain.mjs: see NOTES). -/
import Derived.Shelf.SlSortCmp.NoneTotal
import Derived.Test.YtkgjibhbhddckaaProg
import Derived.Test.YtkgjibhbhddckaaQClLocked41
import Derived.WalkKit
import Derived.ProofKit
import Derived.Test.YtkgjibhbhddckaaQClLocked40
namespace Go.Proofs
open Go.Shelf
def Try.sortFlag_ren : Go.Shelf.Ren := ⟨fun | 6 => 67 | 15 => 91 | 14 => 90 | 28 => 104 | 29 => 105 | 20 => 96 | 21 => 97 | 22 => 98 | 23 => 99 | 24 => 100 | 25 => 101 | 26 => 102 | 27 => 103 | 46 => 106 | 47 => 107 | 48 => 108 | 49 => 109 | 50 => 110 | 57 => 111 | n => n, fun | 22 => 42 | 24 => 68 | 25 => 121 | 3 => 3 | 39 => 144 | 0 => 0 | 53 => 153 | 55 => 136 | 4 => 4 | 46 => 147 | 45 => 146 | 50 => 116 | 5 => 5 | 9 => 9 | 66 => 155 | 70 => 159 | 76 => 161 | 77 => 162 | n => n, fun | n => n⟩
theorem Try.sortFlag : Go.Proofs.SlLaysF0.n6 Try.prog Try.sortFlag_ren := {
  mixed := by kernel_rfl
  f6 := ⟨Try.f67.name, by decide, Try.func67.trans (congrArg some (by kernel_rfl))⟩
  f14 := ⟨Try.f90.name, by decide, Try.func90.trans (congrArg some (by kernel_rfl))⟩
  f15 := Try.func91.trans (congrArg some (by kernel_rfl))
  f20 := ⟨Try.f96.name, by decide, Try.func96.trans (congrArg some (by kernel_rfl))⟩
  f21 := ⟨Try.f97.name, by decide, Try.func97.trans (congrArg some (by kernel_rfl))⟩
  f22 := ⟨Try.f98.name, by decide, Try.func98.trans (congrArg some (by kernel_rfl))⟩
  f23 := ⟨Try.f99.name, by decide, Try.func99.trans (congrArg some (by kernel_rfl))⟩
  f24 := ⟨Try.f100.name, by decide, Try.func100.trans (congrArg some (by kernel_rfl))⟩
  f25 := ⟨Try.f101.name, by decide, Try.func101.trans (congrArg some (by kernel_rfl))⟩
  f26 := ⟨Try.f102.name, by decide, Try.func102.trans (congrArg some (by kernel_rfl))⟩
  f27 := ⟨Try.f103.name, by decide, Try.func103.trans (congrArg some (by kernel_rfl))⟩
  f28 := Try.func104.trans (congrArg some (by kernel_rfl))
  f29 := Try.func105.trans (congrArg some (by kernel_rfl))
  f46 := ⟨Try.f106.name, by decide, Try.func106.trans (congrArg some (by kernel_rfl))⟩
  f47 := Try.func107.trans (congrArg some (by kernel_rfl))
  f48 := Try.func108.trans (congrArg some (by kernel_rfl))
  f49 := ⟨Try.f109.name, by decide, Try.func109.trans (congrArg some (by kernel_rfl))⟩
  f50 := ⟨Try.f110.name, by decide, Try.func110.trans (congrArg some (by kernel_rfl))⟩
  f57 := ⟨Try.f111.name, by decide, Try.func111.trans (congrArg some (by kernel_rfl))⟩
  t0 := Try.underlying0
  a0 := Try.isAgg0
  z0 := Try.sizeOf0
  v0 := Try.zeroValue0
  t3 := Try.underlying3
  a3 := Try.isAgg3
  z3 := Try.sizeOf3
  v3 := Try.zeroValue3
  t4 := Try.underlying4
  a4 := Try.isAgg4
  z4 := Try.sizeOf4
  v4 := Try.zeroValue4
  t5 := Try.underlying5
  a5 := Try.isAgg5
  z5 := Try.sizeOf5
  v5 := Try.zeroValue5
  t9 := Try.underlying9
  a9 := Try.isAgg9
  z9 := Try.sizeOf9
  v9 := Try.zeroValue9
  t22 := Try.underlying42
  a22 := Try.isAgg42
  z22 := Try.sizeOf42
  v22 := Try.zeroValue42
  t25 := Try.underlying121
  a25 := Try.isAgg121
  z25 := Try.sizeOf121
  v25 := Try.zeroValue121
  t39 := Try.underlying144
  a39 := Try.isAgg144
  z39 := Try.sizeOf144
  v39 := Try.zeroValue144
  t45 := Try.underlying146
  a45 := Try.isAgg146
  z45 := Try.sizeOf146
  v45 := Try.zeroValue146
  t46 := Try.underlying147
  a46 := Try.isAgg147
  z46 := Try.sizeOf147
  v46 := Try.zeroValue147
  t50 := Try.underlying116
  a50 := Try.isAgg116
  z50 := Try.sizeOf116
  v50 := Try.zeroValue116
  t53 := Try.underlying153
  a53 := Try.isAgg153
  z53 := Try.sizeOf153
  v53 := Try.zeroValue153
  t55 := Try.underlying136
  a55 := Try.isAgg136
  z55 := Try.sizeOf136
  v55 := Try.zeroValue136
  t66 := Try.underlying155
  a66 := Try.isAgg155
  z66 := Try.sizeOf155
  v66 := Try.zeroValue155
  t70 := Try.underlying159
  a70 := Try.isAgg159
  z70 := Try.sizeOf159
  v70 := Try.zeroValue159
  t76 := Try.underlying161
  a76 := Try.isAgg161
  z76 := Try.sizeOf161
  v76 := Try.zeroValue161
  t77 := Try.underlying162
  a77 := Try.isAgg162
  z77 := Try.sizeOf162
  v77 := Try.zeroValue162 }
end Go.Proofs
/- order: the sort of flags, out of the shelf's contract. -/
namespace Go.Vc
open Go Go.Proofs Go.Shelf Go.RowKit Go.Lib Go.Sort
set_option maxRecDepth 10000
variable {w : World}
abbrev Fb := { x : F2 // 0 ≤ x.1 ∧ x.1 ≤ 1048576 }
instance : Inhabited Fb := ⟨⟨(0, 0), by decide⟩⟩
def encF (x : Fb) : List Value := flgC x.1
def cfF (x y : Fb) : Int := x.1.1 - y.1.1
theorem ltF (x y : Fb) : ltOf cfF x y = decide (x.1.1 < y.1.1) := by
  unfold ltOf cfF
  rw [decide_eq_decide]; omega
theorem swoF : SWO (ltOf cfF) where
  irrefl x := by rw [ltF]; simp
  trans x y z h1 h2 := by rw [ltF] at *; simp at *; omega
  ntrans x y z h1 h2 := by rw [ltF] at *; simp at *; omega
set_option maxHeartbeats 1000000 in
theorem closF (x y : Fb) (W : World) : Calls Try.prog 68 #[.agg #[.int .i64 x.1.1, .int .i64 x.1.2], .agg #[.int .i64 y.1.1, .int .i64 y.1.2]] W fun e w' => e = .returned (.int .i64 (cfF x y)) ∧ ∃ q os', w' = grow (W.drewN q) os' := by
  have hx := x.2
  have hy := y.2
  have e1 : IntKind.i64.wrap (x.1.1 - y.1.1) = x.1.1 - y.1.1 := by simp [IntKind.wrap, IntKind.bits, IntKind.signed]; omega
  unfold cfF
  go_enter Try.func68, Try.ntmps68
  go_wp2
  go_ret
  exact ⟨rfl, 0, _, by rw [alloc_eq_grow, alloc_eq_grow, grow_grow]; rfl⟩
theorem subF : ∀ (l : List F2), (∀ x ∈ l, 0 ≤ x.1 ∧ x.1 ≤ 1048576) → ∃ lb : List Fb, lb.map (·.1) = l
  | [], _ => ⟨[], rfl⟩
  | x :: r, h => by
    obtain ⟨lb, hlb⟩ := subF r (fun y hy => h y (by simp [hy]))
    exact ⟨⟨x, h x (by simp)⟩ :: lb, by simp [hlb]⟩
theorem flat_flags (lb : List Fb) : flatK encF 2 lb.toArray = ⟨flgsC (lb.map (·.1))⟩ := by
  apply ext_get!
  · simp [flgsC_len]
  · intro t ht
    rw [size_flatK] at ht
    rw [get_flatK _ _ _ _ ht]
    have hlt : t / 2 < lb.length := by simp at ht; omega
    have h1 : (flgsC (lb.map (·.1)))[t]? = (encF lb[t / 2])[t % 2]? := by
      unfold flgsC
      rw [flC_at (f := flgC) (m := 2) (fun _ => rfl) (by decide), List.getElem?_map, List.getElem?_eq_getElem hlt]; rfl
    have e1 : lb.toArray[t / 2]! = lb[t / 2] := by simp [hlt]
    rw [e1]
    have h3 : t % 2 < (encF lb[t / 2]).length := by have := Nat.mod_lt t (show 2 > 0 by decide); exact this
    have h2 : t < (flgsC (lb.map (·.1))).length := by rw [flgsC_len]; simp at ht ⊢; omega
    rw [List.getElem?_eq_getElem h3, List.getElem?_eq_getElem h2, Option.some.injEq] at h1
    simp [h2, h3, h1]
theorem put_world {b n : Nat} {xs junk : List Value} {T : TypeId} {F : Array Value} {os : Array Obj} (hB : Blk w b (xs ++ junk) T) (hs : F.size = xs.length) :
    Blk (grow (putRow id (Go.Sort.ahead w n) b 0 F) os) b (F.toList ++ junk) T ∧ Kp [b] w (grow (putRow id (Go.Sort.ahead w n) b 0 F) os) := by
  have hlt := hB.lt
  have hsz : (grow (putRow id (Go.Sort.ahead w n) b 0 F) os).heap.size = w.heap.size + os.size := by simp [grow, putRow, mapBlock, Go.Sort.ahead]
  have hat : ∀ k, k < w.heap.size → (grow (putRow id (Go.Sort.ahead w n) b 0 F) os).heap[k]? = (w.heap.modify b (onCells (putCells id 0 F)))[k]? := fun k hk => by
    show (w.heap.modify b (onCells (putCells id 0 F)) ++ os)[k]? = _
    rw [Array.getElem?_append_left (by simpa using hk)]
  refine ⟨?_, rfl, rfl, rfl, by omega, fun k hk hne => ?_⟩
  · unfold Blk at hB ⊢
    rw [hat b hlt, Array.getElem?_modify, if_pos rfl, hB]
    simp only [Option.map_some, onCells, Option.some.injEq, Obj.cells.injEq, and_true]
    apply Array.ext
    · simp [putCells, hs]
    · intro i h1 h2
      simp only [putCells, Array.getElem_mapIdx]
      by_cases hi : i < F.size
      · rw [if_pos ⟨by omega, by omega⟩]
        simp [hi]
      · rw [if_neg (by omega)]
        simp only [List.getElem_toArray]
        rw [List.getElem_append_right (by omega), List.getElem_append_right (by simpa using hi)]
        simp [hs]
  · rw [hat k hk, Array.getElem?_modify, if_neg (by simpa [eq_comm] using hne)]
theorem sortF : SortF := by
  intro w ad cap l ho hv hl
  refine ⟨Try.call67, ?_⟩
  have hlen := ho.1
  cases ad with
  | none =>
    have h0 : l.length = 0 := ho.2.1
    have hnil : l = [] := List.eq_nil_of_length_eq_zero h0
    subst hnil
    refine (AnyF.slices_SortFunc_none Try.sortFlag none cap (.func (.func 68) #[] #[]) w).mono ?_
    rintro e w' ⟨rfl, rfl⟩
    exact ⟨_, rfl, rfl, [], .refl _, .nil, ho, Kp.refl _ _⟩
  | some ad =>
    obtain ⟨b, off, spot⟩ := ad
    obtain ⟨h1, h2, h3, h4, junk, h5, h6⟩ := ho.2
    dsimp only at h1 h2 h5
    subst h1 h2
    obtain ⟨lb, rfl⟩ := subF l hv
    have hsz : lb.toArray.size = (lb.map (·.1)).length := by simp
    have hH : HoldsK encF 2 w b 0 lb.toArray := by
      unfold HoldsK
      rw [flat_flags]
      intro j hj
      rw [Nat.zero_add]
      refine ⟨h5.cell ?_, h5.free⟩
      have hj : j < (flgsC (lb.map (·.1))).length := hj
      rw [List.getElem?_append_left hj, List.getElem?_eq_getElem hj]
      simp [hj]
    have hcon := AnyQ.slices_SortFunc Try.sortFlag 2 Try.isAgg68 Try.sizeOf68 encF (fun _ => rfl) (fun x v hv => by simp [encF] at hv; rcases hv with rfl | rfl <;> rfl) cfF swoF 68 #[] b 0 cap lb.toArray w (fun args w => Try.call68 args w) (fun m os dk _ x y => closF x y _) hH h5.lt (by simp at hl ⊢; omega)
    rw [hsz] at hcon
    refine Calls.mono hcon ?_
    rintro e w' ⟨rfl, d', n, os, hp, hs, rfl⟩
    obtain ⟨l', rfl⟩ : ∃ l' : List Fb, d' = l'.toArray := ⟨d'.toList, rfl⟩
    have hl' : l'.length = lb.length := by have := hp.1; simpa using this
    have hperm : lb.Perm l' := by
      have := hp.2.2
      simp at this
      rw [List.take_of_length_le (by omega)] at this
      exact this.symm
    have hsort : l'.Pairwise (fun a b => a.1.1 ≤ b.1.1) := by
      rw [List.pairwise_iff_getElem]
      intro i j hi hj hij
      have := hs i j (Nat.zero_le _) hij (by simp; omega)
      rw [ltF] at this
      simp [hi, hj] at this
      omega
    unfold sortWorldK putRowK
    rw [flat_flags]
    obtain ⟨hB, hk⟩ := put_world (n := n) (os := os) (F := ⟨flgsC (l'.map (·.1))⟩) h5 (by simp [flgsC_len, hl'])
    refine ⟨_, rfl, rfl, l'.map (·.1), hperm.map _, List.pairwise_map.2 hsort, ?_, hk⟩
    refine ⟨by rw [flgsC_len]; simp [hl'], rfl, rfl, h3, h4, junk, hB, ?_⟩
    rw [List.length_append, flgsC_len] at h6 ⊢
    simp at h6 ⊢; omega
end Go.Vc
/- order: OrderLocked. -/
namespace Go.Vc
open Go Go.Proofs
set_option maxRecDepth 10000
variable {w : World}
theorem and3 (x : Int) : ∃ k : Nat, ibits .and .i64 x 3 = (k : Int) ∧ k < 4 := by
  have h1 : (BitVec.ofInt 64 x &&& BitVec.ofInt 64 3).toNat ≤ 3 := by
    rw [BitVec.toNat_and]
    exact Nat.and_le_right
  refine ⟨(BitVec.ofInt 64 x &&& BitVec.ofInt 64 3).toNat, ?_, by omega⟩
  show IntKind.i64.wrap ((BitVec.ofInt 64 x &&& BitVec.ofInt 64 3).toNat : Int) = _
  rw [IntKind.wrap_i64]
  omega
theorem tripC (x : TK) : evsC (trip x) = [I 5, I x.1, I 0, I x.2, I x.1, I 0, I 6, I x.1, I 0] := rfl
theorem evsC_app (a b : List Ev) : evsC (a ++ b) = evsC a ++ evsC b := by simp [evsC]
set_option maxHeartbeats 12800000 in
theorem orderLocked_ret {turns : List Int} {bs : List Bool} {tad bad : Option Addr} {tcap bcap : Nat} (ht : ReadS w tad (turns.map I)) (htl : turns.length ≤ 1048576) (hb : ReadS w bad (bs.map Value.bool)) (hbl : bs.length ≤ 1048576) :
    Ret Try.prog 5 [.slice tad turns.length tcap, .slice bad bs.length bcap] w (fun v w' => v = .bool true ∧ Kp [] w w') := by
  refine enter Try.call5 Try.func5 rfl rfl rfl rfl ?_
  (repeat first|refine zA ?_|refine zB ?_|refine zC ?_|refine zD ?_|refine zE ?_|refine zg ?_|refine zo rfl rfl (by first|exact trivial|(simp only[AllP];omega)|(simp(discharger:=omega)only[AllP,cA,cB];omega)|(simp only[AllP,cC,cD,cE,cF,cG];omega)) ?_|refine zn ?_|refine zb ?_|refine ze rfl ?_|refine zr ?_|refine zk ?_|refine zT rfl rfl rfl ?_|refine zU rfl rfl rfl ?_|refine zV rfl rfl rfl ?_|refine zf rfl ?_|refine zt rfl ?_)
  refine o_call lives20_ret rfl rfl rfl ?_
  rintro v w1 ⟨rfl, k1⟩
  (repeat first|refine zA ?_|refine zB ?_|refine zC ?_|refine zD ?_|refine zE ?_|refine zg ?_|refine zo rfl rfl (by first|exact trivial|(simp only[AllP];omega)|(simp(discharger:=omega)only[AllP,cA,cB];omega)|(simp only[AllP,cC,cD,cE,cF,cG];omega)) ?_|refine zn ?_|refine zb ?_|refine ze rfl ?_|refine zr ?_|refine zk ?_|refine zT rfl rfl rfl ?_|refine zU rfl rfl rfl ?_|refine zV rfl rfl rfl ?_|refine zf rfl ?_|refine zt rfl ?_)
  refine o_build (shC sL none 0) rfl rfl rfl rfl rfl rfl rfl ?_
  (repeat first|refine zA ?_|refine zB ?_|refine zC ?_|refine zD ?_|refine zE ?_|refine zg ?_|refine zo rfl rfl (by first|exact trivial|(simp only[AllP];omega)|(simp(discharger:=omega)only[AllP,cA,cB];omega)|(simp only[AllP,cC,cD,cE,cF,cG];omega)) ?_|refine zn ?_|refine zb ?_|refine ze rfl ?_|refine zr ?_|refine zk ?_|refine zT rfl rfl rfl ?_|refine zU rfl rfl rfl ?_|refine zV rfl rfl rfl ?_|refine zf rfl ?_|refine zt rfl ?_)
  refine o_alloc rfl rfl rfl rfl ?_
  intro bx w2 hbx hu2
  refine o_storeA (cs := shC sL none 0) rfl hu2.blk (Nat.le_refl _) rfl (by simp [Value.oneCell']) rfl rfl rfl rfl ?_
  intro w3 hu3
  have k3 : Kp [] w1 w3 := (hu2.kp [] (.inr (by omega))).since (hu3.kp [bx] (.inl (by simp))) (by simp; omega)
  have hS3 : Blk w3 bx (shC sL none 0) 24 := hu3.blk
  have k03 := k1.trans k3
  clear hu3 hu2 hbx
  (repeat first|refine zA ?_|refine zB ?_|refine zC ?_|refine zD ?_|refine zE ?_|refine zg ?_|refine zo rfl rfl (by first|exact trivial|(simp only[AllP];omega)|(simp(discharger:=omega)only[AllP,cA,cB];omega)|(simp only[AllP,cC,cD,cE,cF,cG];omega)) ?_|refine zn ?_|refine zb ?_|refine ze rfl ?_|refine zr ?_|refine zk ?_|refine zT rfl rfl rfl ?_|refine zU rfl rfl rfl ?_|refine zV rfl rfl rfl ?_|refine zf rfl ?_|refine zt rfl ?_)
  refine o_build [I 7, I 0, I 1] rfl rfl rfl rfl rfl rfl rfl ?_
  (repeat first|refine zA ?_|refine zB ?_|refine zC ?_|refine zD ?_|refine zE ?_|refine zg ?_|refine zo rfl rfl (by first|exact trivial|(simp only[AllP];omega)|(simp(discharger:=omega)only[AllP,cA,cB];omega)|(simp only[AllP,cC,cD,cE,cF,cG];omega)) ?_|refine zn ?_|refine zb ?_|refine ze rfl ?_|refine zr ?_|refine zk ?_|refine zT rfl rfl rfl ?_|refine zU rfl rfl rfl ?_|refine zV rfl rfl rfl ?_|refine zf rfl ?_|refine zt rfl ?_)
  refine o_build [I 7, I 0, I 2] rfl rfl rfl rfl rfl rfl rfl ?_
  (repeat first|refine zA ?_|refine zB ?_|refine zC ?_|refine zD ?_|refine zE ?_|refine zg ?_|refine zo rfl rfl (by first|exact trivial|(simp only[AllP];omega)|(simp(discharger:=omega)only[AllP,cA,cB];omega)|(simp only[AllP,cC,cD,cE,cF,cG];omega)) ?_|refine zn ?_|refine zb ?_|refine ze rfl ?_|refine zr ?_|refine zk ?_|refine zT rfl rfl rfl ?_|refine zU rfl rfl rfl ?_|refine zV rfl rfl rfl ?_|refine zf rfl ?_|refine zt rfl ?_)
  refine o_build [I 7, I 0, I 3] rfl rfl rfl rfl rfl rfl rfl ?_
  (repeat first|refine zA ?_|refine zB ?_|refine zC ?_|refine zD ?_|refine zE ?_|refine zg ?_|refine zo rfl rfl (by first|exact trivial|(simp only[AllP];omega)|(simp(discharger:=omega)only[AllP,cA,cB];omega)|(simp only[AllP,cC,cD,cE,cF,cG];omega)) ?_|refine zn ?_|refine zb ?_|refine ze rfl ?_|refine zr ?_|refine zk ?_|refine zT rfl rfl rfl ?_|refine zU rfl rfl rfl ?_|refine zV rfl rfl rfl ?_|refine zf rfl ?_|refine zt rfl ?_)
  refine o_buildSliceN (evsC (lockL [])) rfl rfl rfl (by kernel_rfl) rfl rfl rfl rfl ?_
  intro b4 w4 hb4 hu4
  have k4 : Kp [] w3 w4 := hu4.kp [] (.inr (by omega))
  have hS4 := k4.blk (by simp) hS3
  have z3 := k03.size
  have bx3 := hS3.lt
  (repeat first|refine zA ?_|refine zB ?_|refine zC ?_|refine zD ?_|refine zE ?_|refine zg ?_|refine zo rfl rfl (by first|exact trivial|(simp only[AllP];omega)|(simp(discharger:=omega)only[AllP,cA,cB];omega)|(simp only[AllP,cC,cD,cE,cF,cG];omega)) ?_|refine zn ?_|refine zb ?_|refine ze rfl ?_|refine zr ?_|refine zk ?_|refine zT rfl rfl rfl ?_|refine zU rfl rfl rfl ?_|refine zV rfl rfl rfl ?_|refine zf rfl ?_|refine zt rfl ?_)
  have hO4 : OwnS w4 59 3 (some ⟨b4, 0, none⟩) 3 3 (evsC (lockL [])) := ⟨rfl, rfl, rfl, Nat.le_refl _, by simp only [maxLen]; omega, [], by rw [List.append_nil]; exact hu4.blk, rfl⟩
  have hst : ∀ W, Kp [] w3 W → ReadS W tad (turns.map I) ∧ ReadS W bad (bs.map Value.bool) ∧ Blk W bx (shC sL none 0) 24 := fun W k => ⟨(ht.kp k03 (by simp)).kp k (by simp), (hb.kp k03 (by simp)).kp k (by simp), k.blk (by simp) hS3⟩
  refine r_loop (α := Nat × Option Addr × Nat) [0, 1, 5, 6, 7] (fun x => [.slice tad turns.length tcap, .slice bad bs.length bcap, ptr bx, .slice x.2.1 (3 + x.1 * 3) x.2.2, I x.1])
    (fun x W => x.1 ≤ turns.length ∧ x.1 ≤ 60 ∧ (∃ ts : List TK, ts.length = x.1 ∧ (∀ y ∈ ts, TOk y) ∧ OwnS W 59 3 x.2.1 (3 + x.1 * 3) x.2.2 (evsC (lockL ts))) ∧ Kp [] w3 W ∧ ∀ b, b ∈ blkOf x.2.1 → w3.heap.size ≤ b) (fun x => 60 - x.1) (0, some ⟨b4, 0, none⟩, 3) rfl ⟨by omega, by omega, ⟨[], rfl, by simp, hO4⟩, k4, by simp [blkOf]; omega⟩ ?_
  clear hO4 hu4 hS4
  rintro ⟨i, ax, cx⟩ e W ⟨hi1, hi60, ⟨ts, htl2, hts, hO⟩, kW, hnx⟩
  dsimp only at hi1 hi60 htl2 hO hnx ⊢
  obtain ⟨htW, hbW, hSW⟩ := hst W kW
  (repeat first|refine zA ?_|refine zB ?_|refine zC ?_|refine zD ?_|refine zE ?_|refine zg ?_|refine zo rfl rfl (by first|exact trivial|(simp only[AllP];omega)|(simp(discharger:=omega)only[AllP,cA,cB];omega)|(simp only[AllP,cC,cD,cE,cF,cG];omega)) ?_|refine zn ?_|refine zb ?_|refine ze rfl ?_|refine zr ?_|refine zk ?_|refine zT rfl rfl rfl ?_|refine zU rfl rfl rfl ?_|refine zV rfl rfl rfl ?_|refine zf rfl ?_|refine zt rfl ?_)
  refine o_bool [0, 1, 5, 6, 7] [.slice tad turns.length tcap, .slice bad bs.length bcap, ptr bx, .slice ax (3 + i * 3) cx, I i] 28 (decide (i < turns.length) && decide (i < 60)) (fun w' => w' = W) ?_ ?_
  · by_cases h0 : i < turns.length
    · refine o_is true 4 true rfl rfl rfl (by simp [h0]) ?_
      (repeat first|refine zo rfl rfl (by first|exact trivial|(simp only[AllP];omega)|(simp(discharger:=omega)only[AllP,cA,cB];omega)|(simp only[AllP,cC,cD,cE,cF,cG];omega)) ?_|refine zn ?_|refine zT rfl rfl rfl ?_|refine zU rfl rfl rfl ?_|refine zV rfl rfl rfl ?_)
      exact ⟨rfl, ⟨_, rfl, by simp [h0]; omega⟩, rfl⟩
    · refine o_is false 4 true rfl rfl rfl (by simp [h0]) ?_
      (repeat first|refine zo rfl rfl (by first|exact trivial|(simp only[AllP];omega)|(simp(discharger:=omega)only[AllP,cA,cB];omega)|(simp only[AllP,cC,cD,cE,cF,cG];omega)) ?_|refine zn ?_|refine zT rfl rfl rfl ?_|refine zU rfl rfl rfl ?_|refine zV rfl rfl rfl ?_)
      exact ⟨rfl, ⟨_, rfl, by simp [h0]⟩, rfl⟩
  rintro e W' rfl
  cases hcond : (decide (i < turns.length) && decide (i < 60)) with
  | true =>
    simp only [Bool.and_eq_true, decide_eq_true_eq] at hcond
    refine r_yes rfl rfl ?_
    obtain ⟨bt, ot, rfl, _, hct⟩ := htW.at_ (by simp; omega)
    obtain ⟨k, hk, hk4⟩ := and3 turns[i]
    (repeat first|refine zA ?_|refine zB ?_|refine zC ?_|refine zD ?_|refine zE ?_|refine zg ?_|refine zo rfl rfl (by first|exact trivial|(simp only[AllP];omega)|(simp(discharger:=omega)only[AllP,cA,cB];omega)|(simp only[AllP,cC,cD,cE,cF,cG];omega)) ?_|refine zn ?_|refine zb ?_|refine ze rfl ?_|refine zr ?_|refine zk ?_|refine zT rfl rfl rfl ?_|refine zU rfl rfl rfl ?_|refine zV rfl rfl rfl ?_|refine zf rfl ?_|refine zt rfl ?_)
    refine o_loadc (b := bt) (off := ot + i) (v := I turns[i]) rfl (hct i _ (by simp [List.getElem?_eq_getElem hcond.1])) rfl rfl rfl rfl ?_
    (repeat first|refine zA ?_|refine zB ?_|refine zC ?_|refine zD ?_|refine zE ?_|refine zg ?_|refine zo rfl rfl (by first|exact trivial|(simp only[AllP];omega)|(simp(discharger:=omega)only[AllP,cA,cB];omega)|(simp only[AllP,cC,cD,cE,cF,cG];omega)) ?_|refine zn ?_|refine zb ?_|refine ze rfl ?_|refine zr ?_|refine zk ?_|refine zT rfl rfl rfl ?_|refine zU rfl rfl rfl ?_|refine zV rfl rfl rfl ?_|refine zf rfl ?_|refine zt rfl ?_)
    rw [hk]
    (repeat first|refine zA ?_|refine zB ?_|refine zC ?_|refine zD ?_|refine zE ?_|refine zg ?_|refine zo rfl rfl (by first|exact trivial|(simp only[AllP];omega)|(simp(discharger:=omega)only[AllP,cA,cB];omega)|(simp only[AllP,cC,cD,cE,cF,cG];omega)) ?_|refine zn ?_|refine zb ?_|refine ze rfl ?_|refine zr ?_|refine zk ?_|refine zT rfl rfl rfl ?_|refine zU rfl rfl rfl ?_|refine zV rfl rfl rfl ?_|refine zf rfl ?_|refine zt rfl ?_)
    refine o_bool [0, 1, 5, 6, 7, 8, 9] [.slice (some ⟨bt, ot, none⟩) turns.length tcap, .slice bad bs.length bcap, ptr bx, .slice ax (3 + i * 3) cx, I i, I k, I 1] 45 (decide (i < bs.length) && (bs[i]?).getD false) (fun W'' => W'' = W') ?_ ?_
    · by_cases h0 : i < bs.length
      · obtain ⟨bb, ob, rfl, _, hcb⟩ := hbW.at_ (by simp; omega)
        refine o_is true 4 true rfl rfl rfl (by simp [h0]) ?_
        (repeat first|refine zo rfl rfl (by first|exact trivial|(simp only[AllP];omega)|(simp(discharger:=omega)only[AllP,cA,cB];omega)|(simp only[AllP,cC,cD,cE,cF,cG];omega)) ?_|refine zn ?_|refine zT rfl rfl rfl ?_|refine zU rfl rfl rfl ?_|refine zV rfl rfl rfl ?_)
        refine o_loadc (b := bb) (off := ob + i) (v := .bool bs[i]) rfl (hcb i _ (by simp [List.getElem?_eq_getElem h0])) rfl rfl rfl rfl ?_
        (repeat first|refine zo rfl rfl (by first|exact trivial|(simp only[AllP];omega)|(simp(discharger:=omega)only[AllP,cA,cB];omega)|(simp only[AllP,cC,cD,cE,cF,cG];omega)) ?_|refine zn ?_|refine zT rfl rfl rfl ?_|refine zU rfl rfl rfl ?_|refine zV rfl rfl rfl ?_)
        exact ⟨rfl, ⟨_, rfl, by simp [h0]⟩, rfl⟩
      · refine o_is false 4 true rfl rfl rfl (by simp [h0]) ?_
        (repeat first|refine zo rfl rfl (by first|exact trivial|(simp only[AllP];omega)|(simp(discharger:=omega)only[AllP,cA,cB];omega)|(simp only[AllP,cC,cD,cE,cF,cG];omega)) ?_|refine zn ?_|refine zT rfl rfl rfl ?_|refine zU rfl rfl rfl ?_|refine zV rfl rfl rfl ?_)
        exact ⟨rfl, ⟨_, rfl, by simp [h0]⟩, rfl⟩
    rintro e W'' rfl
    refine r_cut (α := Int) [0, 1, 5, 6, 7, 8, 9] (fun kk => [.slice (some ⟨bt, ot, none⟩) turns.length tcap, .slice bad bs.length bcap, ptr bx, .slice ax (3 + i * 3) cx, I i, I k, I kk]) (fun kk W => W = W'' ∧ (kk = 1 ∨ kk = 2)) ?_ ?_
    · cases hb2 : (decide (i < bs.length) && (bs[i]?).getD false) with
      | true =>
        refine r_yes rfl rfl ?_
        (repeat first|refine zA ?_|refine zB ?_|refine zC ?_|refine zD ?_|refine zE ?_|refine zg ?_|refine zo rfl rfl (by first|exact trivial|(simp only[AllP];omega)|(simp(discharger:=omega)only[AllP,cA,cB];omega)|(simp only[AllP,cC,cD,cE,cF,cG];omega)) ?_|refine zn ?_|refine zb ?_|refine ze rfl ?_|refine zr ?_|refine zk ?_|refine zT rfl rfl rfl ?_|refine zU rfl rfl rfl ?_|refine zV rfl rfl rfl ?_|refine zf rfl ?_|refine zt rfl ?_)
        exact ⟨2, rfl, rfl, .inr rfl⟩
      | false =>
        refine r_no rfl rfl ?_
        (repeat first|refine zA ?_|refine zB ?_|refine zC ?_|refine zD ?_|refine zE ?_|refine zg ?_|refine zo rfl rfl (by first|exact trivial|(simp only[AllP];omega)|(simp(discharger:=omega)only[AllP,cA,cB];omega)|(simp only[AllP,cC,cD,cE,cF,cG];omega)) ?_|refine zn ?_|refine zb ?_|refine ze rfl ?_|refine zr ?_|refine zk ?_|refine zT rfl rfl rfl ?_|refine zU rfl rfl rfl ?_|refine zV rfl rfl rfl ?_|refine zf rfl ?_|refine zt rfl ?_)
        exact ⟨1, rfl, rfl, .inl rfl⟩
    rintro kk e W1 ⟨rfl, hkk⟩
    (repeat first|refine zA ?_|refine zB ?_|refine zC ?_|refine zD ?_|refine zE ?_|refine zg ?_|refine zo rfl rfl (by first|exact trivial|(simp only[AllP];omega)|(simp(discharger:=omega)only[AllP,cA,cB];omega)|(simp only[AllP,cC,cD,cE,cF,cG];omega)) ?_|refine zn ?_|refine zb ?_|refine ze rfl ?_|refine zr ?_|refine zk ?_|refine zT rfl rfl rfl ?_|refine zU rfl rfl rfl ?_|refine zV rfl rfl rfl ?_|refine zf rfl ?_|refine zt rfl ?_)
    refine o_build [I 5, I k, I 0] rfl rfl rfl rfl rfl rfl rfl ?_
    (repeat first|refine zA ?_|refine zB ?_|refine zC ?_|refine zD ?_|refine zE ?_|refine zg ?_|refine zo rfl rfl (by first|exact trivial|(simp only[AllP];omega)|(simp(discharger:=omega)only[AllP,cA,cB];omega)|(simp only[AllP,cC,cD,cE,cF,cG];omega)) ?_|refine zn ?_|refine zb ?_|refine ze rfl ?_|refine zr ?_|refine zk ?_|refine zT rfl rfl rfl ?_|refine zU rfl rfl rfl ?_|refine zV rfl rfl rfl ?_|refine zf rfl ?_|refine zt rfl ?_)
    refine o_build [I kk, I k, I 0] rfl rfl rfl rfl rfl rfl rfl ?_
    (repeat first|refine zA ?_|refine zB ?_|refine zC ?_|refine zD ?_|refine zE ?_|refine zg ?_|refine zo rfl rfl (by first|exact trivial|(simp only[AllP];omega)|(simp(discharger:=omega)only[AllP,cA,cB];omega)|(simp only[AllP,cC,cD,cE,cF,cG];omega)) ?_|refine zn ?_|refine zb ?_|refine ze rfl ?_|refine zr ?_|refine zk ?_|refine zT rfl rfl rfl ?_|refine zU rfl rfl rfl ?_|refine zV rfl rfl rfl ?_|refine zf rfl ?_|refine zt rfl ?_)
    refine o_build [I 6, I k, I 0] rfl rfl rfl rfl rfl rfl rfl ?_
    (repeat first|refine zA ?_|refine zB ?_|refine zC ?_|refine zD ?_|refine zE ?_|refine zg ?_|refine zo rfl rfl (by first|exact trivial|(simp only[AllP];omega)|(simp(discharger:=omega)only[AllP,cA,cB];omega)|(simp only[AllP,cC,cD,cE,cF,cG];omega)) ?_|refine zn ?_|refine zb ?_|refine ze rfl ?_|refine zr ?_|refine zk ?_|refine zT rfl rfl rfl ?_|refine zU rfl rfl rfl ?_|refine zV rfl rfl rfl ?_|refine zf rfl ?_|refine zt rfl ?_)
    refine o_buildSliceN (evsC (trip ((k : Int), kk))) rfl rfl rfl (by kernel_rfl) rfl rfl rfl rfl ?_
    intro b9 W2 hb9 hu9
    have k9 : Kp [] W1 W2 := hu9.kp [] (.inr (by omega))
    have lL := lockL_len ts
    refine o_append (evsC (trip ((k : Int), kk))) rfl rfl (hO.kp k9 (by simp)) (fun j v hv => by rw [addr_lit, Nat.zero_add]; exact hu9.blk.cell hv) rfl rfl rfl (by omega) rfl (by omega) (by simp [evsC, trip, Value.oneCell']) (by simp only [maxLen]; omega) (by omega) rfl rfl ?_
    intro ad' cap' W3 ho3 k3' hn3
    have zW := kW.size
    have z9 := k9.size
    (repeat first|refine zA ?_|refine zB ?_|refine zC ?_|refine zD ?_|refine zE ?_|refine zg ?_|refine zo rfl rfl (by first|exact trivial|(simp only[AllP];omega)|(simp(discharger:=omega)only[AllP,cA,cB];omega)|(simp only[AllP,cC,cD,cE,cF,cG];omega)) ?_|refine zn ?_|refine zb ?_|refine ze rfl ?_|refine zr ?_|refine zk ?_|refine zT rfl rfl rfl ?_|refine zU rfl rfl rfl ?_|refine zV rfl rfl rfl ?_|refine zf rfl ?_|refine zt rfl ?_)
    refine ⟨(i + 1, ad', cap'), by dsimp only; rw [show 3 + (i + 1) * 3 = 3 + i * 3 + 3 by omega]; rfl, ⟨by dsimp only; omega, by dsimp only; omega, ⟨ts ++ [((k : Int), kk)], by simp [htl2], ?_, ?_⟩, (kW.trans k9).since k3' hnx, fun b hb => ?_⟩, by dsimp only; omega⟩
    · intro y hy
      rcases List.mem_append.1 hy with hy | hy
      · exact hts y hy
      · simp at hy; subst hy
        exact ⟨⟨by dsimp only; omega, by dsimp only; omega⟩, hkk⟩
    · dsimp only
      rw [lockL_snoc, evsC_app, show 3 + (i + 1) * 3 = 3 + i * 3 + 3 by omega]; exact ho3
    · rcases hn3 b hb with q | q
      · exact hnx b q
      · omega
  | false =>
    refine r_no rfl rfl ?_
    have lL := lockL_len ts
    have hlen : (lockL ts).length = 3 + i * 3 := by omega
    have hsh : shapeB sL = true := by decide
    have hok := lockL_ok hts
    have hrc := lock_races ts (rnds sL (lockL ts) (lockL ts).length)
    (repeat first|refine zA ?_|refine zB ?_|refine zC ?_|refine zD ?_|refine zE ?_|refine zg ?_|refine zo rfl rfl (by first|exact trivial|(simp only[AllP];omega)|(simp(discharger:=omega)only[AllP,cA,cB];omega)|(simp only[AllP,cC,cD,cE,cF,cG];omega)) ?_|refine zn ?_|refine zb ?_|refine ze rfl ?_|refine zr ?_|refine zk ?_|refine zT rfl rfl rfl ?_|refine zU rfl rfl rfl ?_|refine zV rfl rfl rfl ?_|refine zf rfl ?_|refine zt rfl ?_)
    refine o_loadA (vs := shC sL none 0) rfl (fun j v hv => by rw [Nat.zero_add]; exact hSW.cell hv) rfl rfl rfl rfl rfl rfl ?_
    (repeat first|refine zA ?_|refine zB ?_|refine zC ?_|refine zD ?_|refine zE ?_|refine zg ?_|refine zo rfl rfl (by first|exact trivial|(simp only[AllP];omega)|(simp(discharger:=omega)only[AllP,cA,cB];omega)|(simp only[AllP,cC,cD,cE,cF,cG];omega)) ?_|refine zn ?_|refine zb ?_|refine ze rfl ?_|refine zr ?_|refine zk ?_|refine zT rfl rfl rfl ?_|refine zU rfl rfl rfl ?_|refine zV rfl rfl rfl ?_|refine zf rfl ?_|refine zt rfl ?_)
    refine o_call (oNew_ret (s := sL) (l := lockL ts) (pad := none) (cap := 0) (ead := ax) (ecap := cx) (show ReadS W' none [] from rfl) (by decide) hO.readN (by omega)) (by rw [hlen]; rfl) rfl rfl ?_
    rintro v W5 (⟨e5, hbad, rfl, k5⟩ | ⟨_, _, _, g, rfl, hG, k5, _⟩)
    · exact (badO_not hbad hsh (by omega) hok).elim
    have hX : ∀ W, Kp [] W5 W → OX W (some ⟨g.p, 0, none⟩) g.F (lockL ts) (rnds sL (lockL ts) (lockL ts).length) := fun W k => .inr ⟨g, rfl, rfl, hG.kp0 k⟩
    have k05 := (k03.trans kW).trans k5
    (repeat first|refine zA ?_|refine zB ?_|refine zC ?_|refine zD ?_|refine zE ?_|refine zg ?_|refine zo rfl rfl (by first|exact trivial|(simp only[AllP];omega)|(simp(discharger:=omega)only[AllP,cA,cB];omega)|(simp only[AllP,cC,cD,cE,cF,cG];omega)) ?_|refine zn ?_|refine zb ?_|refine ze rfl ?_|refine zr ?_|refine zk ?_|refine zT rfl rfl rfl ?_|refine zU rfl rfl rfl ?_|refine zV rfl rfl rfl ?_|refine zf rfl ?_|refine zt rfl ?_)
    refine o_call (xFirst_ret (hX _ (Kp.refl _ _))) rfl rfl rfl ?_
    rintro v W6 ⟨rfl, k6⟩
    have e2 : firstV (lockL ts) (rnds sL (lockL ts) (lockL ts).length) = none := by unfold firstV; rw [hrc]; rfl
    rw [e2]
    simp only [Option.getD_none, Option.isSome_none]
    (repeat first|refine zA ?_|refine zB ?_|refine zC ?_|refine zD ?_|refine zE ?_|refine zg ?_|refine zo rfl rfl (by first|exact trivial|(simp only[AllP];omega)|(simp(discharger:=omega)only[AllP,cA,cB];omega)|(simp only[AllP,cC,cD,cE,cF,cG];omega)) ?_|refine zn ?_|refine zb ?_|refine ze rfl ?_|refine zr ?_|refine zk ?_|refine zT rfl rfl rfl ?_|refine zU rfl rfl rfl ?_|refine zV rfl rfl rfl ?_|refine zf rfl ?_|refine zt rfl ?_)
    refine o_alloc rfl rfl rfl rfl ?_
    intro bc W8 hbc hu8
    refine o_storeA (cs := [I 0, I 0, I 0]) rfl hu8.blk (Nat.le_refl _) rfl (by simp [Value.oneCell']) rfl rfl rfl rfl ?_
    intro W9 hu9
    have k9 : Kp [] W6 W9 := (hu8.kp [] (.inr (by omega))).since (hu9.kp [bc] (.inl (by simp))) (by simp; omega)
    have k69 := k6.trans k9
    (repeat first|refine zA ?_|refine zB ?_|refine zC ?_|refine zD ?_|refine zE ?_|refine zg ?_|refine zo rfl rfl (by first|exact trivial|(simp only[AllP];omega)|(simp(discharger:=omega)only[AllP,cA,cB];omega)|(simp only[AllP,cC,cD,cE,cF,cG];omega)) ?_|refine zn ?_|refine zb ?_|refine ze rfl ?_|refine zr ?_|refine zk ?_|refine zT rfl rfl rfl ?_|refine zU rfl rfl rfl ?_|refine zV rfl rfl rfl ?_|refine zf rfl ?_|refine zt rfl ?_)
    refine o_call (xFlags_ret sortF (hX _ k69) (races_var hsh hok) (3 + i * 3 : Nat)) rfl rfl rfl ?_
    rintro v W10 ⟨ad10, cap10, rfl, _, k10, _⟩
    have e3 : flagsV (lockL ts) (rnds sL (lockL ts) (lockL ts).length) (3 + i * 3 : Nat) = [] := by unfold flagsV; rw [hrc]; rfl
    rw [e3]
    (repeat first|refine zA ?_|refine zB ?_|refine zC ?_|refine zD ?_|refine zE ?_|refine zg ?_|refine zo rfl rfl (by first|exact trivial|(simp only[AllP];omega)|(simp(discharger:=omega)only[AllP,cA,cB];omega)|(simp only[AllP,cC,cD,cE,cF,cG];omega)) ?_|refine zn ?_|refine zb ?_|refine ze rfl ?_|refine zr ?_|refine zk ?_|refine zT rfl rfl rfl ?_|refine zU rfl rfl rfl ?_|refine zV rfl rfl rfl ?_|refine zf rfl ?_|refine zt rfl ?_)
    exact ⟨_, rfl, rfl, (k05.trans k69).trans k10⟩
end Go.Vc
