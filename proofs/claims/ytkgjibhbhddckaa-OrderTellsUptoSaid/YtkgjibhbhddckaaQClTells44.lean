/- order: the sort of flags, out of the shelf's contract. -/
import Derived.Test.YtkgjibhbhddckaaQClTells36
import Derived.Test.YtkgjibhbhddckaaQClTells43
import Derived.WalkKit
import Derived.ProofKit
namespace Go.Vc
open Go Go.Proofs Go.Shelf Go.RowKit Go.Lib Go.Sort
set_option maxRecDepth 10000
variable {w : World}
abbrev Fb := { x : F2 // 0 ≤ x.1 ∧ x.1 ≤ 1048576 }
instance : Inhabited Fb := ⟨⟨(0, 0), by decide⟩⟩
def encF (x : Fb) : List Value := flgC x.1
def cfF (x y : Fb) : Int := x.1.1 - y.1.1
theorem ltF (x y : Fb) : ltOf cfF x y = decide (x.1.1 < y.1.1) := by
  unfold ltOf cfF
  rw [decide_eq_decide]; omega
theorem swoF : SWO (ltOf cfF) where
  irrefl x := by rw [ltF]; simp
  trans x y z h1 h2 := by rw [ltF] at *; simp at *; omega
  ntrans x y z h1 h2 := by rw [ltF] at *; simp at *; omega
set_option maxHeartbeats 1000000 in
theorem closF (x y : Fb) (W : World) : Calls Try.prog 68 #[.agg #[.int .i64 x.1.1, .int .i64 x.1.2], .agg #[.int .i64 y.1.1, .int .i64 y.1.2]] W fun e w' => e = .returned (.int .i64 (cfF x y)) ∧ ∃ q os', w' = grow (W.drewN q) os' := by
  have hx := x.2
  have hy := y.2
  have e1 : IntKind.i64.wrap (x.1.1 - y.1.1) = x.1.1 - y.1.1 := by simp [IntKind.wrap, IntKind.bits, IntKind.signed]; omega
  unfold cfF
  go_enter Try.func68, Try.ntmps68
  go_wp2
  go_ret
  exact ⟨rfl, 0, _, by rw [alloc_eq_grow, alloc_eq_grow, grow_grow]; rfl⟩
theorem subF : ∀ (l : List F2), (∀ x ∈ l, 0 ≤ x.1 ∧ x.1 ≤ 1048576) → ∃ lb : List Fb, lb.map (·.1) = l
  | [], _ => ⟨[], rfl⟩
  | x :: r, h => by
    obtain ⟨lb, hlb⟩ := subF r (fun y hy => h y (by simp [hy]))
    exact ⟨⟨x, h x (by simp)⟩ :: lb, by simp [hlb]⟩
theorem flat_flags (lb : List Fb) : flatK encF 2 lb.toArray = ⟨flgsC (lb.map (·.1))⟩ := by
  apply ext_get!
  · simp [flgsC_len]
  · intro t ht
    rw [size_flatK] at ht
    rw [get_flatK _ _ _ _ ht]
    have hlt : t / 2 < lb.length := by simp at ht; omega
    have h1 : (flgsC (lb.map (·.1)))[t]? = (encF lb[t / 2])[t % 2]? := by
      unfold flgsC
      rw [flC_at (f := flgC) (m := 2) (fun _ => rfl) (by decide), List.getElem?_map, List.getElem?_eq_getElem hlt]; rfl
    have e1 : lb.toArray[t / 2]! = lb[t / 2] := by simp [hlt]
    rw [e1]
    have h3 : t % 2 < (encF lb[t / 2]).length := by have := Nat.mod_lt t (show 2 > 0 by decide); exact this
    have h2 : t < (flgsC (lb.map (·.1))).length := by rw [flgsC_len]; simp at ht ⊢; omega
    rw [List.getElem?_eq_getElem h3, List.getElem?_eq_getElem h2, Option.some.injEq] at h1
    simp [h2, h3, h1]
theorem put_world {b n : Nat} {xs junk : List Value} {T : TypeId} {F : Array Value} {os : Array Obj} (hB : Blk w b (xs ++ junk) T) (hs : F.size = xs.length) :
    Blk (grow (putRow id (Go.Sort.ahead w n) b 0 F) os) b (F.toList ++ junk) T ∧ Kp [b] w (grow (putRow id (Go.Sort.ahead w n) b 0 F) os) := by
  have hlt := hB.lt
  have hsz : (grow (putRow id (Go.Sort.ahead w n) b 0 F) os).heap.size = w.heap.size + os.size := by simp [grow, putRow, mapBlock, Go.Sort.ahead]
  have hat : ∀ k, k < w.heap.size → (grow (putRow id (Go.Sort.ahead w n) b 0 F) os).heap[k]? = (w.heap.modify b (onCells (putCells id 0 F)))[k]? := fun k hk => by
    show (w.heap.modify b (onCells (putCells id 0 F)) ++ os)[k]? = _
    rw [Array.getElem?_append_left (by simpa using hk)]
  refine ⟨?_, rfl, rfl, rfl, by omega, fun k hk hne => ?_⟩
  · unfold Blk at hB ⊢
    rw [hat b hlt, Array.getElem?_modify, if_pos rfl, hB]
    simp only [Option.map_some, onCells, Option.some.injEq, Obj.cells.injEq, and_true]
    apply Array.ext
    · simp [putCells, hs]
    · intro i h1 h2
      simp only [putCells, Array.getElem_mapIdx]
      by_cases hi : i < F.size
      · rw [if_pos ⟨by omega, by omega⟩]
        simp [hi]
      · rw [if_neg (by omega)]
        simp only [List.getElem_toArray]
        rw [List.getElem_append_right (by omega), List.getElem_append_right (by simpa using hi)]
        simp [hs]
  · rw [hat k hk, Array.getElem?_modify, if_neg (by simpa [eq_comm] using hne)]
theorem sortF : SortF := by
  intro w ad cap l ho hv hl
  refine ⟨Try.call67, ?_⟩
  have hlen := ho.1
  cases ad with
  | none =>
    have h0 : l.length = 0 := ho.2.1
    have hnil : l = [] := List.eq_nil_of_length_eq_zero h0
    subst hnil
    refine (AnyF.slices_SortFunc_none Try.sortFlag none cap (.func (.func 68) #[] #[]) w).mono ?_
    rintro e w' ⟨rfl, rfl⟩
    exact ⟨_, rfl, rfl, [], .refl _, .nil, ho, Kp.refl _ _⟩
  | some ad =>
    obtain ⟨b, off, spot⟩ := ad
    obtain ⟨h1, h2, h3, h4, junk, h5, h6⟩ := ho.2
    dsimp only at h1 h2 h5
    subst h1 h2
    obtain ⟨lb, rfl⟩ := subF l hv
    have hsz : lb.toArray.size = (lb.map (·.1)).length := by simp
    have hH : HoldsK encF 2 w b 0 lb.toArray := by
      unfold HoldsK
      rw [flat_flags]
      intro j hj
      rw [Nat.zero_add]
      refine ⟨h5.cell ?_, h5.free⟩
      have hj : j < (flgsC (lb.map (·.1))).length := hj
      rw [List.getElem?_append_left hj, List.getElem?_eq_getElem hj]
      simp [hj]
    have hcon := AnyQ.slices_SortFunc Try.sortFlag 2 Try.isAgg68 Try.sizeOf68 encF (fun _ => rfl) (fun x v hv => by simp [encF] at hv; rcases hv with rfl | rfl <;> rfl) cfF swoF 68 #[] b 0 cap lb.toArray w (fun args w => Try.call68 args w) (fun m os dk _ x y => closF x y _) hH h5.lt (by simp at hl ⊢; omega)
    rw [hsz] at hcon
    refine Calls.mono hcon ?_
    rintro e w' ⟨rfl, d', n, os, hp, hs, rfl⟩
    obtain ⟨l', rfl⟩ : ∃ l' : List Fb, d' = l'.toArray := ⟨d'.toList, rfl⟩
    have hl' : l'.length = lb.length := by have := hp.1; simpa using this
    have hperm : lb.Perm l' := by
      have := hp.2.2
      simp at this
      rw [List.take_of_length_le (by omega)] at this
      exact this.symm
    have hsort : l'.Pairwise (fun a b => a.1.1 ≤ b.1.1) := by
      rw [List.pairwise_iff_getElem]
      intro i j hi hj hij
      have := hs i j (Nat.zero_le _) hij (by simp; omega)
      rw [ltF] at this
      simp [hi, hj] at this
      omega
    unfold sortWorldK putRowK
    rw [flat_flags]
    obtain ⟨hB, hk⟩ := put_world (n := n) (os := os) (F := ⟨flgsC (l'.map (·.1))⟩) h5 (by simp [flgsC_len, hl'])
    refine ⟨_, rfl, rfl, l'.map (·.1), hperm.map _, List.pairwise_map.2 hsort, ?_, hk⟩
    refine ⟨by rw [flgsC_len]; simp [hl'], rfl, rfl, h3, h4, junk, hB, ?_⟩
    rw [List.length_append, flgsC_len] at h6 ⊢
    simp at h6 ⊢; omega
end Go.Vc
