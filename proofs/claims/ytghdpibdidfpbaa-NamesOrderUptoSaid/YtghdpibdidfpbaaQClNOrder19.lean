/- the shelf at this program, in plain words (printed by tool/lay.py: shelf_lay_g SlLaysF.n6 Slsf 6 at Try 31 as Try.laySort) -/
import Derived.Shelf.SlSortCmp.NoneTotal
import Derived.Test.YtghdpibdidfpbaaProg
import Derived.Test.YtghdpibdidfpbaaQClNOrder13
import Derived.WalkKit
import Derived.ProofKit
namespace Go.Proofs
open Go.Shelf
def Try.laySort_ren : Go.Shelf.Ren := ⟨fun | 6 => 31 | 15 => 40 | 14 => 39 | 28 => 51 | 29 => 52 | 20 => 43 | 21 => 44 | 22 => 45 | 23 => 46 | 24 => 47 | 25 => 48 | 26 => 49 | 27 => 50 | 46 => 54 | 47 => 55 | 48 => 56 | 49 => 57 | 50 => 58 | 57 => 60 | n => n, fun | 22 => 22 | 24 => 3 | 25 => 62 | 3 => 3 | 39 => 68 | 0 => 0 | 53 => 78 | 55 => 80 | 4 => 4 | 46 => 72 | 45 => 71 | 50 => 49 | 5 => 5 | 9 => 9 | 66 => 81 | 70 => 85 | 76 => 87 | 77 => 88 | n => n, fun | n => n⟩
theorem Try.laySort : Go.Proofs.SlLaysF.n6 Try.prog Try.laySort_ren := {
  mixed := by kernel_rfl
  f6 := ⟨Try.f31.name, by decide, Try.func31.trans (congrArg some (by kernel_rfl))⟩
  f14 := ⟨Try.f39.name, by decide, Try.func39.trans (congrArg some (by kernel_rfl))⟩
  f15 := Try.func40.trans (congrArg some (by kernel_rfl))
  f20 := ⟨Try.f43.name, by decide, Try.func43.trans (congrArg some (by kernel_rfl))⟩
  f21 := ⟨Try.f44.name, by decide, Try.func44.trans (congrArg some (by kernel_rfl))⟩
  f22 := ⟨Try.f45.name, by decide, Try.func45.trans (congrArg some (by kernel_rfl))⟩
  f23 := ⟨Try.f46.name, by decide, Try.func46.trans (congrArg some (by kernel_rfl))⟩
  f24 := ⟨Try.f47.name, by decide, Try.func47.trans (congrArg some (by kernel_rfl))⟩
  f25 := ⟨Try.f48.name, by decide, Try.func48.trans (congrArg some (by kernel_rfl))⟩
  f26 := ⟨Try.f49.name, by decide, Try.func49.trans (congrArg some (by kernel_rfl))⟩
  f27 := ⟨Try.f50.name, by decide, Try.func50.trans (congrArg some (by kernel_rfl))⟩
  f28 := Try.func51.trans (congrArg some (by kernel_rfl))
  f29 := Try.func52.trans (congrArg some (by kernel_rfl))
  f46 := ⟨Try.f54.name, by decide, Try.func54.trans (congrArg some (by kernel_rfl))⟩
  f47 := Try.func55.trans (congrArg some (by kernel_rfl))
  f48 := Try.func56.trans (congrArg some (by kernel_rfl))
  f49 := ⟨Try.f57.name, by decide, Try.func57.trans (congrArg some (by kernel_rfl))⟩
  f50 := ⟨Try.f58.name, by decide, Try.func58.trans (congrArg some (by kernel_rfl))⟩
  f57 := ⟨Try.f60.name, by decide, Try.func60.trans (congrArg some (by kernel_rfl))⟩
  t0 := Try.underlying0
  a0 := Try.isAgg0
  z0 := Try.sizeOf0
  v0 := Try.zeroValue0
  t3 := Try.underlying3
  a3 := Try.isAgg3
  z3 := Try.sizeOf3
  v3 := Try.zeroValue3
  t4 := Try.underlying4
  a4 := Try.isAgg4
  z4 := Try.sizeOf4
  v4 := Try.zeroValue4
  t5 := Try.underlying5
  a5 := Try.isAgg5
  z5 := Try.sizeOf5
  v5 := Try.zeroValue5
  t9 := Try.underlying9
  a9 := Try.isAgg9
  z9 := Try.sizeOf9
  v9 := Try.zeroValue9
  t22 := Try.underlying22
  a22 := Try.isAgg22
  z22 := Try.sizeOf22
  v22 := Try.zeroValue22
  a24 := Try.isAgg3
  z24 := Try.sizeOf3
  t25 := Try.underlying62
  a25 := Try.isAgg62
  z25 := Try.sizeOf62
  v25 := Try.zeroValue62
  t39 := Try.underlying68
  a39 := Try.isAgg68
  z39 := Try.sizeOf68
  v39 := Try.zeroValue68
  t45 := Try.underlying71
  a45 := Try.isAgg71
  z45 := Try.sizeOf71
  v45 := Try.zeroValue71
  t46 := Try.underlying72
  a46 := Try.isAgg72
  z46 := Try.sizeOf72
  v46 := Try.zeroValue72
  t50 := Try.underlying49
  a50 := Try.isAgg49
  z50 := Try.sizeOf49
  v50 := Try.zeroValue49
  t53 := Try.underlying78
  a53 := Try.isAgg78
  z53 := Try.sizeOf78
  v53 := Try.zeroValue78
  t55 := Try.underlying80
  a55 := Try.isAgg80
  z55 := Try.sizeOf80
  v55 := Try.zeroValue80
  t66 := Try.underlying81
  a66 := Try.isAgg81
  z66 := Try.sizeOf81
  v66 := Try.zeroValue81
  t70 := Try.underlying85
  a70 := Try.isAgg85
  z70 := Try.sizeOf85
  v70 := Try.zeroValue85
  t76 := Try.underlying87
  a76 := Try.isAgg87
  z76 := Try.sizeOf87
  v76 := Try.zeroValue87
  t77 := Try.underlying88
  a77 := Try.isAgg88
  z77 := Try.sizeOf88
  v77 := Try.zeroValue88 }
end Go.Proofs
/- slices.SortFunc at []int, out of the shelf's contract. -/
namespace Go.Vc
open Go Go.Proofs Go.Shelf Go.RowKit Go.Lib Go.Sort
set_option maxRecDepth 10000
variable {w : World}
theorem put_row1 {α : Type} [Inhabited α] {enc : α → Value} {b n : Nat} {xs junk : List Value} {T : TypeId} {d : Array α} {os : Array Obj} (hB : Blk w b (xs ++ junk) T) (hs : d.size = xs.length) :
    Blk (grow (putRow enc (Go.Sort.ahead w n) b 0 d) os) b (d.toList.map enc ++ junk) T ∧ Kp [b] w (grow (putRow enc (Go.Sort.ahead w n) b 0 d) os) := by
  have hlt := hB.lt
  have hsz : (grow (putRow enc (Go.Sort.ahead w n) b 0 d) os).heap.size = w.heap.size + os.size := by simp [grow, putRow, mapBlock, Go.Sort.ahead]
  have hat : ∀ k, k < w.heap.size → (grow (putRow enc (Go.Sort.ahead w n) b 0 d) os).heap[k]? = (w.heap.modify b (onCells (putCells enc 0 d)))[k]? := fun k hk => by
    show (w.heap.modify b (onCells (putCells enc 0 d)) ++ os)[k]? = _
    rw [Array.getElem?_append_left (by simpa using hk)]
  refine ⟨?_, rfl, rfl, rfl, by omega, fun k hk hne => ?_⟩
  · unfold Blk at hB ⊢
    rw [hat b hlt, Array.getElem?_modify, if_pos rfl, hB]
    simp only [Option.map_some, onCells, Option.some.injEq, Obj.cells.injEq, and_true]
    apply Array.ext
    · simp [putCells, hs]
    · intro i h1 h2
      simp only [putCells, Array.getElem_mapIdx]
      by_cases hi : i < d.size
      · rw [if_pos ⟨by omega, by omega⟩]
        simp [hi]
      · rw [if_neg (by omega)]
        simp only [List.getElem_toArray]
        rw [List.getElem_append_right (by omega), List.getElem_append_right (by simpa using hi)]
        simp [hs]
  · rw [hat k hk, Array.getElem?_modify, if_neg (by simpa [eq_comm] using hne)]
/-- a number below N -/
abbrev Below_ (N : Nat) := { i : Nat // i < N }
theorem sortFunc_ret {N : Nat} (hN : 0 < N) {cf : Below_ N → Below_ N → Int} (hO : @SWO (Below_ N) (@ltOf (Below_ N) cf)) {g : FuncId} {lb : List Value} {ad : Option Addr} {n cap : Nat} {xs : List (Below_ N)} (hE : Enters Try.prog g) (h : Dat w ad n cap (xs.map (·.1))) (hn1 : n ≤ 1073741824)
    (hcl : ∀ W, Kp (blkOf ad) w W → ∀ x y : Below_ N, Calls Try.prog g (#[I (x.1 : Int), I (y.1 : Int)] ++ ⟨lb⟩) W fun e w' => e = .returned (I (cf x y)) ∧ ∃ q os', w' = grow (W.drewN q) os') :
    Ret Try.prog 31 [.slice ad n cap, fv g lb] w (fun _ w' => ∃ s' : List (Below_ N), s'.Perm xs ∧ s'.Pairwise (fun a b => ltOf cf b a = false) ∧ Dat w' ad n cap (s'.map (·.1)) ∧ Kp (blkOf ad) w w') := by
  haveI : Inhabited (Below_ N) := ⟨⟨0, hN⟩⟩
  refine ⟨Try.call31, ?_⟩
  have hlen := h.len
  have hsm := h.small
  simp only [List.length_map] at hlen
  cases ad with
  | none =>
    have h0 : n = 0 := h.2.1
    subst h0
    have hnil : xs = [] := List.eq_nil_of_length_eq_zero hlen
    subst hnil
    refine (AnyF.slices_SortFunc_none { Try.laySort with } none cap (fv g lb) w).mono ?_
    rintro e w' ⟨rfl, rfl⟩
    exact ⟨_, rfl, [], .refl _, .nil, h, Kp.refl _ _⟩
  | some ad =>
    obtain ⟨b, off, spot⟩ := ad
    obtain ⟨h1, h2, h3, h4, junk, h5, h6⟩ := h.2
    dsimp only at h1 h2 h5
    subst h1 h2
    have hsz : xs.toArray.size = n := by simp [hlen]
    have hmap : (xs.map (·.1)).map encJ = xs.map (fun x => encJ x.1) := by simp
    have hH : Holds (fun x : Below_ N => encJ x.1) w b 0 xs.toArray := by
      intro j hj
      have hj' : j < xs.length := by simpa using hj
      rw [Nat.zero_add]
      refine ⟨h5.cell ?_, h5.free⟩
      rw [List.getElem?_append_left (by simpa using hj'), hmap, List.getElem?_map, List.getElem?_eq_getElem hj']
      simp [hj']
    have hbw : b < w.heap.size := h5.lt
    have hworld : ∀ (m : Nat) (os : Array Obj) (dk : Array (Below_ N)), dk.size = n → Blk (sortWorld (fun x : Below_ N => encJ x.1) w b 0 m dk os) b (dk.toList.map (fun x => encJ x.1) ++ junk) 3 ∧ Kp [b] w (sortWorld (fun x : Below_ N => encJ x.1) w b 0 m dk os) := fun m os dk hdk => put_row1 h5 (by simp [hdk, hlen])
    have hcon := Any.slices_SortFunc Try.laySort (fun x : Below_ N => encJ x.1) (fun _ => rfl) cf hO g ⟨lb⟩ b 0 cap xs.toArray w (fun args w => hE args w) (fun m os dk hdk x y => hcl _ (by
      have := (hworld m os dk (by rw [hdk, hsz])).2
      exact this.mono (by simp [blkOf])) x y) hH hbw (by rw [hsz]; omega)
    rw [hsz] at hcon
    refine Calls.mono hcon ?_
    rintro e w' ⟨rfl, d', m, os, hp, hs, rfl⟩
    obtain ⟨l', rfl⟩ : ∃ l' : List (Below_ N), d' = l'.toArray := ⟨d'.toList, rfl⟩
    have hl' : l'.length = xs.length := by have := hp.1; simpa using this
    have hperm : xs.Perm l' := by
      have := hp.2.2
      simp at this
      rw [List.take_of_length_le (by omega), List.take_of_length_le (by omega)] at this
      exact this.symm
    obtain ⟨hB, hk⟩ := hworld m os l'.toArray (by simp [hl', hlen])
    refine ⟨_, rfl, l', hperm.symm, ?_, ?_, hk.mono (by simp [blkOf])⟩
    · rw [List.pairwise_iff_getElem]
      intro i j hi hj hij
      have := hs i j (Nat.zero_le _) hij (by omega)
      simpa [hi, hj] using this
    · refine ⟨by simp [hl', hlen], rfl, rfl, h3, h4, junk, ?_, ?_⟩
      · have : (l'.map (·.1)).map encJ = l'.toArray.toList.map (fun x => encJ x.1) := by simp
        rw [this]; exact hB
      · rw [List.length_append] at h6 ⊢
        simp at h6 ⊢; omega
end Go.Vc
