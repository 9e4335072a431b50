/- order: flags of a beginning; lists that are the same. -/
import Derived.Test.YtkgjibhbhddckaaQClBegins29
import Derived.Test.YtkgjibhbhddckaaQClBegins30
import Derived.Shelf.SlSortCmp.NoneTotal
import Derived.Test.YtkgjibhbhddckaaProg
import Derived.WalkKit
import Derived.ProofKit
namespace Go.Vc
open Go Go.Proofs
set_option maxRecDepth 10000
variable {w : World}
theorem refGo_pre {n : Int} : ∀ {L rest : List P3} {acc : List F2}, (∀ x ∈ L, (x.2.2 : Int) < n) → (∀ x ∈ rest, n ≤ (x.2.2 : Int)) → refGo n acc (L ++ rest) = refGo n acc L
  | [], [], _, _, _ => rfl
  | [], y :: r, acc, _, h => by
    rw [List.nil_append]
    unfold refGo
    rw [if_pos (h y (by simp))]
  | x :: r, rest, acc, h, h2 => by
    have h' : ¬ n ≤ (x.2.2 : Int) := by have := h x (by simp); omega
    rw [List.cons_append]
    unfold refGo
    rw [if_neg h', if_neg h']
    exact refGo_pre (fun y hy => h y (List.mem_cons_of_mem _ hy)) h2
theorem flags_take {s : Shp} {l : List Ev} {n : Nat} (hn : n ≤ l.length) : flagsV (l.take n) (rnds s (l.take n) (l.take n).length) n = flagsV l (rnds s l l.length) n := by
  unfold flagsV
  rw [racesN_take hn (by rw [take_len hn]; omega), take_len hn]
  obtain ⟨rest, h1, h2, h3⟩ := racesN_split (E := l) (R := rnds s l l.length) hn
  rw [h1, refGo_pre (fun x hx => by have := h2 x hx; omega) (fun x hx => by have := h3 x hx; omega)]
theorem evsC_take (l : List Ev) (n : Nat) : evsC (l.take n) = (evsC l).take (n * 3) := by
  induction l generalizing n with
  | nil => simp [evsC]
  | cons x r ih =>
    cases n with
    | zero => simp [evsC]
    | succ n =>
      have e1 : evsC (x :: r) = evC x ++ evsC r := by simp [evsC]
      have e2 : evsC (x :: r.take n) = evC x ++ evsC (r.take n) := by simp [evsC]
      have e3 : (n + 1) * 3 = (evC x).length + n * 3 := by show _ = 3 + n * 3; omega
      rw [List.take_succ_cons, e2, e1, ih, e3, List.take_length_add_append]
theorem prsC_get {l : List P3} {i : Nat} {x : P3} (hx : l[i]? = some x) {j : Nat} {v : Value} (hv : (pairC x)[j]? = some v) : (prsC l)[i * 3 + j]? = some v := flC_get (f := pairC) (m := 3) (fun _ => rfl) hx hv
theorem samePairs_yes {ad1 ad2 : Option Addr} {l : List P3} {n1 n2 c1 c2 : Nat} (h1 : ReadS w ad1 (prsC l)) (h2 : ReadS w ad2 (prsC l)) (e1 : l.length = n1) (e2 : l.length = n2) (hl : n1 ≤ 4611686018427387904) :
    Ret Try.prog 25 [.slice ad1 n1 c1, .slice ad2 n2 c2] w (fun v w' => v = .bool true ∧ Sm w w') := by
  subst e1 e2
  refine enter Try.call25 Try.func25 rfl rfl rfl rfl ?_
  (repeat first|refine zA ?_|refine zB ?_|refine zg ?_|refine zo rfl rfl trivial ?_|refine zn ?_)
  refine r_no rfl (by simp) ?_
  (repeat first|refine zA ?_|refine zB ?_|refine zg ?_|refine zo rfl rfl trivial ?_|refine zn ?_|refine zb ?_|refine zk ?_)
  refine r_loop (α := Nat) [0, 1, 5] (fun i => [.slice ad1 l.length c1, .slice ad2 l.length c2, I i]) (fun i w1 => Sm w w1 ∧ i ≤ l.length) (fun i => l.length - i) 0 rfl ⟨Sm.refl _, by omega⟩ ?_
  rintro i e w1 ⟨hs1, hi⟩
  (repeat first|refine zA ?_|refine zB ?_|refine zg ?_|refine zo rfl rfl trivial ?_|refine zn ?_)
  refine r_if rfl (fun hc => ?_) (fun hc => ?_)
  · have hlt : i < l.length := by omega
    obtain ⟨x, hx⟩ : ∃ x, l[i]? = some x := ⟨_, List.getElem?_eq_getElem hlt⟩
    obtain ⟨b1, o1, rfl, _, g1⟩ := h1.at_ (by rw [prsC_len]; omega)
    obtain ⟨b2, o2, rfl, _, g2⟩ := h2.at_ (by rw [prsC_len]; omega)
    have key : ∀ (b o : Nat), (∀ (i : Nat) (v : Value), (prsC l)[i]? = some v → w.cell? ⟨b, o + i, none⟩ = some v) → ∀ w', Sm w1 w' → ∀ j v, (pairC x)[j]? = some v → w'.cell? ⟨b, o + (i : Int).toNat * 3 + j, none⟩ = some v := fun b o g w' hs' j v hv => by
      have := g _ _ (prsC_get hx hv)
      rw [Int.toNat_natCast, Nat.add_assoc, ← this]
      exact World.cell?_of_block (by rw [hs'.heap, hs1.heap])
    (repeat first|refine zC ?_|refine zb ?_|refine zk ?_)
    refine r_seq ?_
    refine r_quietS follows_mixed (by kernel_rfl) ?_
    (repeat refine yo rfl rfl (by first|exact trivial|(simp only[AllP];omega)) ?_)
    refine q_loadA (vs := pairC x) rfl (key b1 o1 g1) rfl rfl rfl rfl rfl rfl ?_
    (repeat refine yo rfl rfl (by first|exact trivial|(simp only[AllP];omega)) ?_)
    refine q_loadA (vs := pairC x) rfl (key b2 o2 g2) rfl rfl rfl rfl rfl rfl ?_
    refine q_neqS [x.1, (x.2.1 : Int), (x.2.2 : Int)] [x.1, (x.2.1 : Int), (x.2.2 : Int)] rfl rfl (by kernel_rfl) (by kernel_rfl) (by kernel_rfl) (by kernel_rfl) (by kernel_rfl) (by kernel_rfl) rfl rfl ?_
    (repeat refine yn ?_)
    intro w2 hs2
    refine r_no rfl (by rw [eqInts_iff.2 rfl]; rfl) ?_
    (repeat first|refine zg ?_|refine zo rfl rfl (by first|exact trivial|(simp only[AllP];omega)) ?_|refine zn ?_|refine zk ?_)
    exact ⟨i + 1, rfl, ⟨hs1.trans hs2, by omega⟩, by omega⟩
  · (repeat first|refine zA ?_|refine zg ?_|refine zo rfl rfl trivial ?_|refine zn ?_|refine ze rfl ?_|refine zr ?_)
    exact ⟨_, rfl, rfl, hs1⟩
theorem sameFlags20_yes {ad1 ad2 : Option Addr} {l : List F2} {n1 n2 c1 c2 : Nat} (h1 : ReadS w ad1 (flgsC l)) (h2 : ReadS w ad2 (flgsC l)) (e1 : l.length = n1) (e2 : l.length = n2) (hl : n1 ≤ 4611686018427387904) :
    Ret Try.prog 19 [.slice ad1 n1 c1, .slice ad2 n2 c2] w (fun v w' => v = .bool true ∧ Sm w w') := by
  subst e1 e2
  refine enter Try.call19 Try.func19 rfl rfl rfl rfl ?_
  (repeat first|refine zA ?_|refine zB ?_|refine zg ?_|refine zo rfl rfl trivial ?_|refine zn ?_)
  refine r_no rfl (by simp) ?_
  (repeat first|refine zA ?_|refine zB ?_|refine zg ?_|refine zo rfl rfl trivial ?_|refine zn ?_|refine zb ?_|refine zk ?_)
  refine r_loop (α := Nat) [0, 1, 5] (fun i => [.slice ad1 l.length c1, .slice ad2 l.length c2, I i]) (fun i w1 => Sm w w1 ∧ i ≤ l.length) (fun i => l.length - i) 0 rfl ⟨Sm.refl _, by omega⟩ ?_
  rintro i e w1 ⟨hs1, hi⟩
  (repeat first|refine zA ?_|refine zB ?_|refine zg ?_|refine zo rfl rfl trivial ?_|refine zn ?_)
  refine r_if rfl (fun hc => ?_) (fun hc => ?_)
  · have hlt : i < l.length := by omega
    obtain ⟨x, hx⟩ : ∃ x, l[i]? = some x := ⟨_, List.getElem?_eq_getElem hlt⟩
    obtain ⟨b1, o1, rfl, _, g1⟩ := h1.at_ (by rw [flgsC_len]; omega)
    obtain ⟨b2, o2, rfl, _, g2⟩ := h2.at_ (by rw [flgsC_len]; omega)
    have key : ∀ (b o : Nat), (∀ (i : Nat) (v : Value), (flgsC l)[i]? = some v → w.cell? ⟨b, o + i, none⟩ = some v) → ∀ w', Sm w1 w' → ∀ j v, (flgC x)[j]? = some v → w'.cell? ⟨b, o + (i : Int).toNat * 2 + j, none⟩ = some v := fun b o g w' hs' j v hv => by
      have := g _ _ (flgsC_get hx hv)
      rw [Int.toNat_natCast, Nat.add_assoc, ← this]
      exact World.cell?_of_block (by rw [hs'.heap, hs1.heap])
    (repeat first|refine zC ?_|refine zb ?_|refine zk ?_)
    refine r_seq ?_
    refine r_quietS follows_mixed (by kernel_rfl) ?_
    (repeat refine yo rfl rfl (by first|exact trivial|(simp only[AllP];omega)) ?_)
    refine q_loadA (vs := flgC x) rfl (key b1 o1 g1) rfl rfl rfl rfl rfl rfl ?_
    (repeat refine yo rfl rfl (by first|exact trivial|(simp only[AllP];omega)) ?_)
    refine q_loadA (vs := flgC x) rfl (key b2 o2 g2) rfl rfl rfl rfl rfl rfl ?_
    refine q_neqS [x.1, x.2] [x.1, x.2] rfl rfl (by kernel_rfl) (by kernel_rfl) (by kernel_rfl) (by kernel_rfl) (by kernel_rfl) (by kernel_rfl) rfl rfl ?_
    (repeat refine yn ?_)
    intro w2 hs2
    refine r_no rfl (by rw [eqInts_iff.2 rfl]; rfl) ?_
    (repeat first|refine zg ?_|refine zo rfl rfl (by first|exact trivial|(simp only[AllP];omega)) ?_|refine zn ?_|refine zk ?_)
    exact ⟨i + 1, rfl, ⟨hs1.trans hs2, by omega⟩, by omega⟩
  · (repeat first|refine zA ?_|refine zg ?_|refine zo rfl rfl trivial ?_|refine zn ?_|refine ze rfl ?_|refine zr ?_)
    exact ⟨_, rfl, rfl, hs1⟩
theorem gonP_all (l : List P3) : gonP (-1) l = l := by unfold gonP; rw [if_neg (by omega)]
end Go.Vc
/- slices.SortFunc at flags: the shelf's structure at this dump, in plain words (printed by the kit's lay-plain.mjs: see NOTES). -/
namespace Go.Proofs
open Go.Shelf
def Try.sortFlag_ren : Go.Shelf.Ren := ⟨fun | 6 => 67 | 15 => 91 | 14 => 90 | 28 => 104 | 29 => 105 | 20 => 96 | 21 => 97 | 22 => 98 | 23 => 99 | 24 => 100 | 25 => 101 | 26 => 102 | 27 => 103 | 46 => 106 | 47 => 107 | 48 => 108 | 49 => 109 | 50 => 110 | 57 => 111 | n => n, fun | 22 => 42 | 24 => 68 | 25 => 121 | 3 => 3 | 39 => 144 | 0 => 0 | 53 => 153 | 55 => 136 | 4 => 4 | 46 => 147 | 45 => 146 | 50 => 116 | 5 => 5 | 9 => 9 | 66 => 155 | 70 => 159 | 76 => 161 | 77 => 162 | n => n, fun | n => n⟩
theorem Try.sortFlag : Go.Proofs.SlLaysF0.n6 Try.prog Try.sortFlag_ren := {
  mixed := by kernel_rfl
  f6 := ⟨Try.f67.name, by decide, Try.func67.trans (congrArg some (by kernel_rfl))⟩
  f14 := ⟨Try.f90.name, by decide, Try.func90.trans (congrArg some (by kernel_rfl))⟩
  f15 := Try.func91.trans (congrArg some (by kernel_rfl))
  f20 := ⟨Try.f96.name, by decide, Try.func96.trans (congrArg some (by kernel_rfl))⟩
  f21 := ⟨Try.f97.name, by decide, Try.func97.trans (congrArg some (by kernel_rfl))⟩
  f22 := ⟨Try.f98.name, by decide, Try.func98.trans (congrArg some (by kernel_rfl))⟩
  f23 := ⟨Try.f99.name, by decide, Try.func99.trans (congrArg some (by kernel_rfl))⟩
  f24 := ⟨Try.f100.name, by decide, Try.func100.trans (congrArg some (by kernel_rfl))⟩
  f25 := ⟨Try.f101.name, by decide, Try.func101.trans (congrArg some (by kernel_rfl))⟩
  f26 := ⟨Try.f102.name, by decide, Try.func102.trans (congrArg some (by kernel_rfl))⟩
  f27 := ⟨Try.f103.name, by decide, Try.func103.trans (congrArg some (by kernel_rfl))⟩
  f28 := Try.func104.trans (congrArg some (by kernel_rfl))
  f29 := Try.func105.trans (congrArg some (by kernel_rfl))
  f46 := ⟨Try.f106.name, by decide, Try.func106.trans (congrArg some (by kernel_rfl))⟩
  f47 := Try.func107.trans (congrArg some (by kernel_rfl))
  f48 := Try.func108.trans (congrArg some (by kernel_rfl))
  f49 := ⟨Try.f109.name, by decide, Try.func109.trans (congrArg some (by kernel_rfl))⟩
  f50 := ⟨Try.f110.name, by decide, Try.func110.trans (congrArg some (by kernel_rfl))⟩
  f57 := ⟨Try.f111.name, by decide, Try.func111.trans (congrArg some (by kernel_rfl))⟩
  t0 := Try.underlying0
  a0 := Try.isAgg0
  z0 := Try.sizeOf0
  v0 := Try.zeroValue0
  t3 := Try.underlying3
  a3 := Try.isAgg3
  z3 := Try.sizeOf3
  v3 := Try.zeroValue3
  t4 := Try.underlying4
  a4 := Try.isAgg4
  z4 := Try.sizeOf4
  v4 := Try.zeroValue4
  t5 := Try.underlying5
  a5 := Try.isAgg5
  z5 := Try.sizeOf5
  v5 := Try.zeroValue5
  t9 := Try.underlying9
  a9 := Try.isAgg9
  z9 := Try.sizeOf9
  v9 := Try.zeroValue9
  t22 := Try.underlying42
  a22 := Try.isAgg42
  z22 := Try.sizeOf42
  v22 := Try.zeroValue42
  t25 := Try.underlying121
  a25 := Try.isAgg121
  z25 := Try.sizeOf121
  v25 := Try.zeroValue121
  t39 := Try.underlying144
  a39 := Try.isAgg144
  z39 := Try.sizeOf144
  v39 := Try.zeroValue144
  t45 := Try.underlying146
  a45 := Try.isAgg146
  z45 := Try.sizeOf146
  v45 := Try.zeroValue146
  t46 := Try.underlying147
  a46 := Try.isAgg147
  z46 := Try.sizeOf147
  v46 := Try.zeroValue147
  t50 := Try.underlying116
  a50 := Try.isAgg116
  z50 := Try.sizeOf116
  v50 := Try.zeroValue116
  t53 := Try.underlying153
  a53 := Try.isAgg153
  z53 := Try.sizeOf153
  v53 := Try.zeroValue153
  t55 := Try.underlying136
  a55 := Try.isAgg136
  z55 := Try.sizeOf136
  v55 := Try.zeroValue136
  t66 := Try.underlying155
  a66 := Try.isAgg155
  z66 := Try.sizeOf155
  v66 := Try.zeroValue155
  t70 := Try.underlying159
  a70 := Try.isAgg159
  z70 := Try.sizeOf159
  v70 := Try.zeroValue159
  t76 := Try.underlying161
  a76 := Try.isAgg161
  z76 := Try.sizeOf161
  v76 := Try.zeroValue161
  t77 := Try.underlying162
  a77 := Try.isAgg162
  z77 := Try.sizeOf162
  v77 := Try.zeroValue162 }
end Go.Proofs
/- order: the sort of flags, out of the shelf's contract. -/
namespace Go.Vc
open Go Go.Proofs Go.Shelf Go.RowKit Go.Lib Go.Sort
set_option maxRecDepth 10000
variable {w : World}
abbrev Fb := { x : F2 // 0 ≤ x.1 ∧ x.1 ≤ 1048576 }
instance : Inhabited Fb := ⟨⟨(0, 0), by decide⟩⟩
def encF (x : Fb) : List Value := flgC x.1
def cfF (x y : Fb) : Int := x.1.1 - y.1.1
theorem ltF (x y : Fb) : ltOf cfF x y = decide (x.1.1 < y.1.1) := by
  unfold ltOf cfF
  rw [decide_eq_decide]; omega
theorem swoF : SWO (ltOf cfF) where
  irrefl x := by rw [ltF]; simp
  trans x y z h1 h2 := by rw [ltF] at *; simp at *; omega
  ntrans x y z h1 h2 := by rw [ltF] at *; simp at *; omega
set_option maxHeartbeats 1000000 in
theorem closF (x y : Fb) (W : World) : Calls Try.prog 68 #[.agg #[.int .i64 x.1.1, .int .i64 x.1.2], .agg #[.int .i64 y.1.1, .int .i64 y.1.2]] W fun e w' => e = .returned (.int .i64 (cfF x y)) ∧ ∃ q os', w' = grow (W.drewN q) os' := by
  have hx := x.2
  have hy := y.2
  have e1 : IntKind.i64.wrap (x.1.1 - y.1.1) = x.1.1 - y.1.1 := by simp [IntKind.wrap, IntKind.bits, IntKind.signed]; omega
  unfold cfF
  go_enter Try.func68, Try.ntmps68
  go_wp2
  go_ret
  exact ⟨rfl, 0, _, by rw [alloc_eq_grow, alloc_eq_grow, grow_grow]; rfl⟩
theorem subF : ∀ (l : List F2), (∀ x ∈ l, 0 ≤ x.1 ∧ x.1 ≤ 1048576) → ∃ lb : List Fb, lb.map (·.1) = l
  | [], _ => ⟨[], rfl⟩
  | x :: r, h => by
    obtain ⟨lb, hlb⟩ := subF r (fun y hy => h y (by simp [hy]))
    exact ⟨⟨x, h x (by simp)⟩ :: lb, by simp [hlb]⟩
theorem flat_flags (lb : List Fb) : flatK encF 2 lb.toArray = ⟨flgsC (lb.map (·.1))⟩ := by
  apply ext_get!
  · simp [flgsC_len]
  · intro t ht
    rw [size_flatK] at ht
    rw [get_flatK _ _ _ _ ht]
    have hlt : t / 2 < lb.length := by simp at ht; omega
    have h1 : (flgsC (lb.map (·.1)))[t]? = (encF lb[t / 2])[t % 2]? := by
      unfold flgsC
      rw [flC_at (f := flgC) (m := 2) (fun _ => rfl) (by decide), List.getElem?_map, List.getElem?_eq_getElem hlt]; rfl
    have e1 : lb.toArray[t / 2]! = lb[t / 2] := by simp [hlt]
    rw [e1]
    have h3 : t % 2 < (encF lb[t / 2]).length := by have := Nat.mod_lt t (show 2 > 0 by decide); exact this
    have h2 : t < (flgsC (lb.map (·.1))).length := by rw [flgsC_len]; simp at ht ⊢; omega
    rw [List.getElem?_eq_getElem h3, List.getElem?_eq_getElem h2, Option.some.injEq] at h1
    simp [h2, h3, h1]
theorem put_world {b n : Nat} {xs junk : List Value} {T : TypeId} {F : Array Value} {os : Array Obj} (hB : Blk w b (xs ++ junk) T) (hs : F.size = xs.length) :
    Blk (grow (putRow id (Go.Sort.ahead w n) b 0 F) os) b (F.toList ++ junk) T ∧ Kp [b] w (grow (putRow id (Go.Sort.ahead w n) b 0 F) os) := by
  have hlt := hB.lt
  have hsz : (grow (putRow id (Go.Sort.ahead w n) b 0 F) os).heap.size = w.heap.size + os.size := by simp [grow, putRow, mapBlock, Go.Sort.ahead]
  have hat : ∀ k, k < w.heap.size → (grow (putRow id (Go.Sort.ahead w n) b 0 F) os).heap[k]? = (w.heap.modify b (onCells (putCells id 0 F)))[k]? := fun k hk => by
    show (w.heap.modify b (onCells (putCells id 0 F)) ++ os)[k]? = _
    rw [Array.getElem?_append_left (by simpa using hk)]
  refine ⟨?_, rfl, rfl, rfl, by omega, fun k hk hne => ?_⟩
  · unfold Blk at hB ⊢
    rw [hat b hlt, Array.getElem?_modify, if_pos rfl, hB]
    simp only [Option.map_some, onCells, Option.some.injEq, Obj.cells.injEq, and_true]
    apply Array.ext
    · simp [putCells, hs]
    · intro i h1 h2
      simp only [putCells, Array.getElem_mapIdx]
      by_cases hi : i < F.size
      · rw [if_pos ⟨by omega, by omega⟩]
        simp [hi]
      · rw [if_neg (by omega)]
        simp only [List.getElem_toArray]
        rw [List.getElem_append_right (by omega), List.getElem_append_right (by simpa using hi)]
        simp [hs]
  · rw [hat k hk, Array.getElem?_modify, if_neg (by simpa [eq_comm] using hne)]
theorem sortF : SortF := by
  intro w ad cap l ho hv hl
  refine ⟨Try.call67, ?_⟩
  have hlen := ho.1
  cases ad with
  | none =>
    have h0 : l.length = 0 := ho.2.1
    have hnil : l = [] := List.eq_nil_of_length_eq_zero h0
    subst hnil
    refine (AnyF.slices_SortFunc_none Try.sortFlag none cap (.func (.func 68) #[] #[]) w).mono ?_
    rintro e w' ⟨rfl, rfl⟩
    exact ⟨_, rfl, rfl, [], .refl _, .nil, ho, Kp.refl _ _⟩
  | some ad =>
    obtain ⟨b, off, spot⟩ := ad
    obtain ⟨h1, h2, h3, h4, junk, h5, h6⟩ := ho.2
    dsimp only at h1 h2 h5
    subst h1 h2
    obtain ⟨lb, rfl⟩ := subF l hv
    have hsz : lb.toArray.size = (lb.map (·.1)).length := by simp
    have hH : HoldsK encF 2 w b 0 lb.toArray := by
      unfold HoldsK
      rw [flat_flags]
      intro j hj
      rw [Nat.zero_add]
      refine ⟨h5.cell ?_, h5.free⟩
      have hj : j < (flgsC (lb.map (·.1))).length := hj
      rw [List.getElem?_append_left hj, List.getElem?_eq_getElem hj]
      simp [hj]
    have hcon := AnyQ.slices_SortFunc Try.sortFlag 2 Try.isAgg68 Try.sizeOf68 encF (fun _ => rfl) (fun x v hv => by simp [encF] at hv; rcases hv with rfl | rfl <;> rfl) cfF swoF 68 #[] b 0 cap lb.toArray w (fun args w => Try.call68 args w) (fun m os dk _ x y => closF x y _) hH h5.lt (by simp at hl ⊢; omega)
    rw [hsz] at hcon
    refine Calls.mono hcon ?_
    rintro e w' ⟨rfl, d', n, os, hp, hs, rfl⟩
    obtain ⟨l', rfl⟩ : ∃ l' : List Fb, d' = l'.toArray := ⟨d'.toList, rfl⟩
    have hl' : l'.length = lb.length := by have := hp.1; simpa using this
    have hperm : lb.Perm l' := by
      have := hp.2.2
      simp at this
      rw [List.take_of_length_le (by omega)] at this
      exact this.symm
    have hsort : l'.Pairwise (fun a b => a.1.1 ≤ b.1.1) := by
      rw [List.pairwise_iff_getElem]
      intro i j hi hj hij
      have := hs i j (Nat.zero_le _) hij (by simp; omega)
      rw [ltF] at this
      simp [hi, hj] at this
      omega
    unfold sortWorldK putRowK
    rw [flat_flags]
    obtain ⟨hB, hk⟩ := put_world (n := n) (os := os) (F := ⟨flgsC (l'.map (·.1))⟩) h5 (by simp [flgsC_len, hl'])
    refine ⟨_, rfl, rfl, l'.map (·.1), hperm.map _, List.pairwise_map.2 hsort, ?_, hk⟩
    refine ⟨by rw [flgsC_len]; simp [hl'], rfl, rfl, h3, h4, junk, hB, ?_⟩
    rw [List.length_append, flgsC_len] at h6 ⊢
    simp at h6 ⊢; omega
end Go.Vc
