/- names: Len, Name, Fresh. -/
import Derived.Test.YtghdpibdidfpbaaQClNOrder14
import Derived.Test.YtghdpibdidfpbaaQClNOrder21
import Derived.Lib.LaidTab
namespace Go.Vc
open Go Go.Proofs
set_option maxRecDepth 10000
variable {w : World} {p : Nat} {fp : List Nat} {l : List Str} {m : Nat} {ad : Option Addr} {cap : Nat}
theorem nlen_ret (h : Tab w p fp l m ad cap) : Ret Try.prog 19 [ptr p] w (fun v w' => v = I l.length ∧ w' = w) := by
  have hn := h.few
  refine enter Try.call19 Try.func19 rfl rfl rfl rfl ?_
  (repeat first|refine zA ?_|refine zB ?_|refine zg ?_|refine zo rfl rfl trivial ?_|refine zn ?_)
  refine o_call (there_ret h) rfl rfl rfl ?_
  rintro v w' ⟨rfl, rfl⟩
  (repeat first|refine zA ?_|refine zg ?_|refine zo rfl rfl trivial ?_|refine zn ?_|refine zk ?_|refine zf rfl ?_)
  refine o_load rfl h.hdr rfl rfl rfl rfl rfl ?_
  (repeat first|refine zo rfl rfl trivial ?_|refine zn ?_|refine zr ?_)
  exact ⟨_, rfl, rfl, rfl⟩
/-- what Name answers -/
def nameV (l : List Str) (n : Int) : Value := if 0 ≤ n ∧ n < l.length then .tuple #[S (l.getD n.toNat []), .bool true] else .tuple #[S [], .bool false]
theorem nname_ret (h : Tab w p fp l m ad cap) (n : Int) : Ret Try.prog 21 [ptr p, I n] w (fun v w' => v = nameV l n ∧ w' = w) := by
  have hn := h.few
  unfold nameV
  refine enter Try.call21 Try.func21 rfl rfl rfl rfl ?_
  (repeat first|refine zA ?_|refine zB ?_|refine zg ?_|refine zo rfl rfl trivial ?_|refine zn ?_)
  refine o_call (there_ret h) rfl rfl rfl ?_
  rintro v w' ⟨rfl, rfl⟩
  (repeat first|refine zo rfl rfl trivial ?_|refine zU rfl rfl rfl ?_)
  refine o_split _ _ rfl rfl rfl (fun h1 => ?_) (fun h1 => ?_)
  · have h1 : n < 0 := of_decide_eq_true h1
    (repeat first|refine zA ?_|refine zg ?_|refine zo rfl rfl trivial ?_|refine zn ?_|refine zr ?_|refine zt rfl ?_)
    exact ⟨_, rfl, by rw [if_neg (by omega)], rfl⟩
  · have h1 : ¬ n < 0 := of_decide_eq_false h1
    (repeat refine zo rfl rfl trivial ?_)
    refine o_load rfl h.hdr rfl rfl rfl rfl rfl ?_
    (repeat first|refine zo rfl rfl trivial ?_|refine zn ?_)
    refine r_if rfl (fun hc => ?_) (fun hc => ?_)
    · have hc : (l.length : Int) ≤ n := hc
      (repeat first|refine zA ?_|refine zg ?_|refine zo rfl rfl trivial ?_|refine zn ?_|refine zr ?_)
      exact ⟨_, rfl, by rw [if_neg (by omega)], rfl⟩
    · have hc : ¬ (l.length : Int) ≤ n := hc
      obtain ⟨k, rfl⟩ : ∃ k : Nat, n = k := ⟨n.toNat, by omega⟩
      have hkl : k < l.length := by omega
      (repeat first|refine zA ?_|refine zg ?_|refine zo rfl rfl trivial ?_|refine zk ?_)
      refine o_load rfl h.hdr rfl rfl rfl rfl rfl ?_
      obtain ⟨b, off, rfl, _, hcell⟩ := h.own.read.at_ (by simp; omega)
      (repeat refine zo rfl rfl (by first|exact trivial|(simp only[AllP];omega)) ?_)
      refine o_loadc rfl (hcell k (S (l.getD k [])) (by rw [List.getElem?_map]; simp [hkl])) rfl rfl rfl rfl ?_
      (repeat first|refine zo rfl rfl trivial ?_|refine zn ?_|refine zr ?_)
      exact ⟨_, rfl, by rw [if_pos (by omega)]; rfl, rfl⟩
/-! ### Fresh -/
/-- the table of powers of ten, as its initialiser lays it -/
def PowW (w : World) : Prop := Lib.TabIs Try.prog w "internal/strconv.uint64pow10" .u64 Lib.pow10Tab
end Go.Vc
