/- bits: BitsWords. -/
import Derived.Test.YtkgjibhbhddckaaDoorBt15
import Derived.Test.YtkgjibhbhddckaaDoorBt9
namespace Go.Vc
open Go Go.Proofs
set_option maxRecDepth 10000
variable {w : World}

section
variable {P : Program} {n : Nat} {e : Env} {K : EPost} {all : List Oper} {G : List Nat} {ro : Option Nat} {dst : Option Tmp} {ty : TypeId} {pos : String} {after : Array Edge} {g : Option (Nat × Bool)} {l : List Oper} {t : TypeId} {x y : Operand}
/-- append(nil, s...): a copy of one's own -/
theorem o_appendNil {T : TypeId} {td : TypeDesc} {tn : String} {tby : Nat} {thp : Bool} {tal tfa : Nat} {z : Value} {tcm : Bool} {tms : Array Method}
    {ad : Option Addr} {m cy : Nat} (news : List Value) (hx : ev e x = .slice none 0 0) (hy : ev e y = .slice ad m cy) (hr : ReadS w ad news)
    (hu : P.underlying t = some (.slice T)) (hi : P.info? T = some ⟨td, tn, 1, tby, thp, tal, tfa, some z, tcm, tms⟩) (hzs : z.cells.size = 1)
    (hl : news.length = m) (h1 : ∀ v ∈ news, v.oneCell' = true) (h63 : m ≤ maxLen) (hby : m * tby ≤ 140737488355328) (hd : dOk n dst = true) (hm : may all G e g = some true)
    (kk : ∀ ad' cap' w', NewS w T w' ad' m cap' news → Ops ro P n all G K l (put e dst (.slice ad' m cap')) w') :
    Ops ro P n all G K (⟨dst, .call ⟨.builtin .append, #[x, y], #[t, t]⟩, ty, pos, after, g⟩ :: l) e w := by
  by_cases h0 : m = 0
  · subst h0
    have : news = [] := List.eq_nil_of_length_eq_zero hl
    subst this
    exact o_append0 hx hy (Nat.le_refl _) hu hi hd hm (kk none 0 w ⟨ownS_nil _ _ _, Kp.refl _ _, by simp [blkOf]⟩)
  · obtain ⟨b, off, rfl, _, hc⟩ := hr.at_ (by omega)
    refine o_append news hx hy (ownS_nil _ _ _) (fun j v hv => by rw [addr_lit]; exact hc j v hv) hu hi hzs (by omega) (by omega) (by omega) h1 (by omega) (by rw [Nat.zero_add]; exact hby) hd hm ?_
    intro ad' cap' w' ho hk hnew
    rw [Nat.zero_add] at ho ⊢
    refine kk ad' cap' w' ⟨ho, hk, fun b hb => ?_⟩
    rcases hnew b hb with h | h
    · simp [blkOf] at h
    · exact h
end
theorem trim_trim (ws : List Nat) : trim (trim ws) = trim ws := by
  rcases trim_last ws with h | ⟨l, x, h, hx⟩
  · rw [h]; rfl
  · rw [h]; exact trim_snoc hx
theorem elems_lt {ws : List Nat} (h : ws.length ≤ 16384) : ∀ k ∈ elems ws, k < 1048576 := fun k hk => by have := bit_lt (mem_elems.1 hk); omega

theorem wfU {x : Int} (h : (Lit.int .u64 x).wf = true) : 0 ≤ x ∧ x < 18446744073709551616 := by
  have := h
  simp [Lit.wf, IntKind.min, IntKind.max, IntKind.signed, IntKind.bits] at this
  omega
theorem IsRow.words {w : World} {a : Option Addr} {len cap : Nat} {zs : List Int} (h : IsRow .u64 w a len cap zs) : ∃ ws : List Nat, ReadS w a (ws.map U) ∧ ws.length = len ∧ WOk ws ∧ zs.take len = ws.map (fun (n : Nat) => (n : Int)) := by
  have hl := h.len_le
  have hw : ∀ x ∈ zs, 0 ≤ x ∧ x < 18446744073709551616 := by
    rcases h with ⟨_, _, _, rfl⟩ | ⟨x, _, _, _, _, _, hw⟩
    · simp
    · exact fun n hn => wfU (hw n hn)
  have hr := h.read.take len
  rw [← List.map_take] at hr
  have e1 : zs.take len = ((zs.take len).map Int.toNat).map (fun (n : Nat) => (n : Int)) := by
    rw [List.map_map]
    conv => lhs; rw [show zs.take len = (zs.take len).map id by simp]
    apply List.map_congr_left
    intro x hx
    have := hw x (List.mem_of_mem_take hx)
    simp only [id, Function.comp]; omega
  refine ⟨(zs.take len).map Int.toNat, ?_, by simp; omega, ?_, e1⟩
  · rw [e1] at hr
    rw [List.map_map] at hr
    have : (Value.int IntKind.u64 ∘ fun (n : Nat) => (n : Int)) = U := rfl
    rw [this] at hr; exact hr
  · intro y hy
    obtain ⟨x, hx, rfl⟩ := List.mem_map.1 hy
    have := hw x (List.mem_of_mem_take hx)
    omega
end Go.Vc
