/- bits: edges as they come in; BitsCloses as the rows want it. -/
import Derived.Test.YtdfkhnhmcanncaaDoorBt25
import Derived.Test.YtdfkhnhmcanncaaDoorVcRd
import Derived.Test.YtdfkhnhmcanncaaDoorRows
namespace Go.Vc
open Go Go.Proofs
set_option maxRecDepth 10000

theorem bulk_len {H : Type} : ∀ (l : List (DataW H)), l.length ≤ Go.Proofs.YtdfkhnhmcanncaaDoor.Rows.uptoBulkAll l
  | [] => by simp [Go.Proofs.YtdfkhnhmcanncaaDoor.Rows.uptoBulkAll]
  | d :: r => by
    have ih := bulk_len r
    have h1 : 1 ≤ Go.Proofs.YtdfkhnhmcanncaaDoor.Rows.uptoBulk d := by
      cases d with
      | lit l => cases l <;> simp [Go.Proofs.YtdfkhnhmcanncaaDoor.Rows.uptoBulk]
      | _ => simp [Go.Proofs.YtdfkhnhmcanncaaDoor.Rows.uptoBulk]
    simp only [List.length_cons, Go.Proofs.YtdfkhnhmcanncaaDoor.Rows.uptoBulkAll]; omega
theorem rd_edges {H : Type} {enc : TypeId × Value → H} {w : World} {base : Nat} {sp : Nat → Bool} {held : Bool} {a : Option Addr} {len cap fuel : Nat} {d : DataW H} {ps : List MemPlace}
    (h : DataW.trod enc Tryd.prog w base sp held fuel 50 (Value.slice a len cap).cells.toList = some (d, ps)) :
    ∃ es : List (Int × Int × Int), (ReadS w a (edgeV es) ∧ es.length = len ∧ ∀ e ∈ es, (-9223372036854775808 ≤ e.1 ∧ e.1 ≤ 9223372036854775807) ∧ (-9223372036854775808 ≤ e.2.1 ∧ e.2.1 ≤ 9223372036854775807) ∧ (-9223372036854775808 ≤ e.2.2 ∧ e.2.2 ≤ 9223372036854775807)) ∧ es.length ≤ Go.Proofs.YtdfkhnhmcanncaaDoor.Rows.uptoBulk d := by
  obtain ⟨n, Cs, D, h1, h2, h3, h4, h5, _, _⟩ := trod_recs (m := 3) Tryd.underlying50 (by kernel_rfl) h
  have key : ∀ cs ∈ Cs, ∃ e : Int × Int × Int, cs = [I e.1, I e.2.1, I e.2.2] ∧ (-9223372036854775808 ≤ e.1 ∧ e.1 ≤ 9223372036854775807) ∧ (-9223372036854775808 ≤ e.2.1 ∧ e.2.1 ≤ 9223372036854775807) ∧ (-9223372036854775808 ≤ e.2.2 ∧ e.2.2 ≤ 9223372036854775807) := by
    intro cs hcs
    obtain ⟨i, hi⟩ := List.getElem?_of_mem hcs
    obtain ⟨g1, d', p', _, g2⟩ := h4 i cs hi
    obtain ⟨xs, m, _, _, _, g5, g6⟩ := DataW.trod_struct Tryd.underlying56 g2
    match cs, g1 with
    | [c0, c1, c2], _ =>
      have f0 := g6 0 _ rfl
      have f1 := g6 1 _ rfl
      have f2 := g6 2 _ rfl
      have s : (3 : Nat) = 3 := rfl
      have l3 : xs.length = 3 := g5
      rw [List.getElem?_eq_getElem (by omega)] at f0 f1 f2
      obtain ⟨z0, rfl, w0⟩ := trod_int Tryd.underlying3 f0
      obtain ⟨z1, rfl, w1⟩ := trod_int Tryd.underlying3 f1
      obtain ⟨z2, rfl, w2⟩ := trod_int Tryd.underlying3 f2
      exact ⟨(z0, z1, z2), rfl, wf64 w0, wf64 w1, wf64 w2⟩
  obtain ⟨es, hes⟩ := flatten_of (f := fun e : Int × Int × Int => [I e.1, I e.2.1, I e.2.2]) Cs (fun cs hcs => by obtain ⟨e, he, _⟩ := key cs hcs; exact ⟨e, he⟩)
  have hl : es.length = len := by rw [← h1, hes]; simp
  refine ⟨es, ⟨?_, hl, fun e he => ?_⟩, ?_⟩
  · rw [hes] at h3
    unfold edgeV
    rw [List.flatMap_def]; exact h3
  · obtain ⟨e', he', hr⟩ := key _ (by rw [hes]; exact List.mem_map.2 ⟨e, he, rfl⟩)
    simp at he'
    obtain ⟨r1, r2, r3⟩ := he'
    rw [r1, r2, r3]; exact hr
  · rw [hl, ← h2]
    rcases h5 with ⟨e1, e2⟩ | ⟨spp, e1⟩
    · rw [e2]; simp
    · dsimp only at e1
      rw [e1]
      have := bulk_len D
      simp only [Go.Proofs.YtdfkhnhmcanncaaDoor.Rows.uptoBulk]; omega
theorem bitsCloses_walk {w : World} (hT : TabW w) {size : Int} (hs : (Lit.int .i64 size).wf = true) {a : Option Addr} {len cap : Nat} {es : List (Int × Int × Int)}
    (h : ReadS w a (edgeV es) ∧ es.length = len ∧ ∀ e ∈ es, (-9223372036854775808 ≤ e.1 ∧ e.1 ≤ 9223372036854775807) ∧ (-9223372036854775808 ≤ e.2.1 ∧ e.2.1 ≤ 9223372036854775807) ∧ (-9223372036854775808 ≤ e.2.2 ∧ e.2.2 ≤ 9223372036854775807)) (hb : es.length ≤ 1048576) :
    Calls Tryd.prog 5 #[.int .i64 size, .slice a len cap] w (fun e w' => e = .returned (.bool true) ∧ RowKit.Below w.heap.size w w') := by
  obtain ⟨h1, h2, h3⟩ := h
  have := BitsCloses_ret hT (wf64 hs) (c := cap) h1 hb (fun e he => (h3 e he).2)
  rw [h2] at this
  exact this.calls
end Go.Vc
