/- slices of one's own that begin within their row: the tail, the append of one. -/
import Derived.Test.YtkgjibhbhddckaaQClStrict10
import Derived.ArgAppend
namespace Go.Vc
open Go
variable {P : Program} {n : Nat} {a : Act} {e : Env} {w : World} {K : EPost} {X : List (Nat × EPost)} {R : EPost} {all : List Oper} {G : List Nat} {ro : Option Nat}
structure OwnO (w : World) (T : TypeId) (b off cap : Nat) (xs : List Value) : Prop where
  le : xs.length ≤ cap
  max : cap ≤ maxLen
  blk : ∃ pre junk, pre.length = off ∧ Blk w b (pre ++ (xs ++ junk)) T ∧ cap ≤ (xs ++ junk).length
theorem OwnO.kp {w' : World} {T : TypeId} {b off cap : Nat} {xs : List Value} {S : List Nat} (h : OwnO w T b off cap xs) (hk : Kp S w w') (hb : b ∉ S) : OwnO w' T b off cap xs :=
  ⟨h.le, h.max, by obtain ⟨p, j, h1, h2, h3⟩ := h.blk; exact ⟨p, j, h1, hk.blk hb h2, h3⟩⟩
theorem OwnO.lt {T : TypeId} {b off cap : Nat} {xs : List Value} (h : OwnO w T b off cap xs) : b < w.heap.size := by
  obtain ⟨_, _, _, h2, _⟩ := h.blk; exact h2.lt
theorem OwnO.get {T : TypeId} {b off cap : Nat} {xs : List Value} (h : OwnO w T b off cap xs) {i : Nat} {v : Value} (hv : xs[i]? = some v) : w.cell? ⟨b, off + i, none⟩ = some v := by
  obtain ⟨p, j, h1, h2, h3⟩ := h.blk
  refine h2.cell ?_
  rw [List.getElem?_append_right (by omega), h1, Nat.add_sub_cancel_left, List.getElem?_append_left (List.getElem?_eq_some_iff.1 hv).1]
  exact hv
theorem OwnO.tail {T : TypeId} {b off cap : Nat} {x : Value} {xs : List Value} (h : OwnO w T b off cap (x :: xs)) : OwnO w T b (offS off 1 cap 1) (cap - 1) xs := by
  have hl := h.le
  have hm := h.max
  rw [List.length_cons] at hl
  obtain ⟨p, j, h1, h2, h3⟩ := h.blk
  refine ⟨by omega, by omega, ?_⟩
  unfold offS
  by_cases hc : cap = 1
  · rw [if_pos hc]
    have : xs = [] := List.eq_nil_of_length_eq_zero (by omega)
    subst this
    exact ⟨p, x :: j, h1, h2, by simp; omega⟩
  · rw [if_neg hc]
    refine ⟨p ++ [x], j, by simp; omega, ?_, ?_⟩
    · simpa using h2
    · simp only [List.length_append, List.length_cons] at h3 ⊢; omega
theorem OwnO.of_blk {T : TypeId} {b : Nat} {xs : List Value} (h : Blk w b xs T) (hm : xs.length ≤ maxLen) : OwnO w T b 0 xs.length xs :=
  ⟨Nat.le_refl _, hm, [], [], rfl, by simpa using h, by simp⟩
section
variable {dst : Option Tmp} {ty : TypeId} {pos : String} {after : Array Edge} {g : Option (Nat × Bool)} {l : List Oper} {t : TypeId} {x y : Operand}
theorem o_appendO {T T' : TypeId} {td : TypeDesc} {tn : String} {tby : Nat} {thp : Bool} {tal tfa : Nat} {z : Value} {tcm : Bool} {tms : Array Method}
    {b off cap : Nat} {xs : List Value} {k by_ cy : Nat} {v : Value}
    (hx : ev e x = .slice (some ⟨b, off, none⟩) k cap) (hy : ev e y = .slice (some ⟨by_, 0, none⟩) 1 cy) (ho : OwnO w T b off cap xs) (hkx : xs.length = k) (hb : Blk w by_ [v] T')
    (hu : P.underlying t = some (.slice T)) (hi : P.info? T = some ⟨td, tn, 1, tby, thp, tal, tfa, some z, tcm, tms⟩) (hzs : z.cells.size = 1) (h1 : v.oneCell' = true)
    (h63 : k + 1 ≤ maxLen) (hby : (k + 1) * tby ≤ 140737488355328) (hd : dOk n dst = true) (hm : may all G e g = some true)
    (kk : ∀ b' off' cap' w', OwnO w' T b' off' cap' (xs ++ [v]) → Kp [b] w w' → (b' = b ∨ w.heap.size ≤ b') → Ops ro P n all G K l (put e dst (.slice (some ⟨b', off', none⟩) (k + 1) cap')) w') :
    Ops ro P n all G K (⟨dst, .call ⟨.builtin .append, #[x, y], #[t, t]⟩, ty, pos, after, g⟩ :: l) e w := by
  subst hkx
  have hn : ∀ j u, [v][j]? = some u → w.cell? ((⟨by_, 0, none⟩ : Addr).add j) = some u := fun j u hj => by
    match j, hj with
    | 0, hj => simp at hj; subst hj; simp only [addr_lit, Nat.zero_add]; exact hb.cell rfl
  obtain ⟨p, junk, hp, hB, hcap⟩ := ho.blk
  by_cases hroom : xs.length + 1 ≤ cap
  · have hj0 : xs.length < (xs ++ junk).length := by omega
    have hoff : off + xs.length < (p ++ (xs ++ junk)).length := by rw [List.length_append]; omega
    have hr := run_append_room_cells (P := P) w t ty T _ hu hi b off xs.length cap ⟨by_, 0, none⟩ 1 cy [v] rfl hn (by simpa using h1) hroom
      (fun j hj => by
        have : j = 0 := by simpa using hj
        subst this
        have := hB.cell (off := off + xs.length) (v := (p ++ (xs ++ junk))[off + xs.length]) (List.getElem?_eq_getElem hoff)
        simp only [Nat.mul_one, Nat.add_zero]
        rw [this]; rfl)
      (fun j hj => hB.free)
    simp only [Nat.mul_one] at hr
    have hset : w.setCells b (off + xs.length) [v] = w.setCell ⟨b, off + xs.length, none⟩ v := rfl
    rw [hset] at hr
    have hupd := upd_setCell (off := off + xs.length) hB v
    have e1 : (p ++ (xs ++ junk)).set (off + xs.length) v = p ++ ((xs ++ [v]) ++ junk.drop 1) := by
      have hj1 : junk ≠ [] := fun e => by subst e; simp at hj0
      obtain ⟨q, r, rfl⟩ := List.exists_cons_of_ne_nil hj1
      rw [List.set_append_right _ _ (by omega), hp, Nat.add_sub_cancel_left, List.set_append_right _ _ (Nat.le_refl _), Nat.sub_self]
      simp
    rw [e1] at hupd
    refine ops_does (v := .slice (some ⟨b, off, none⟩) (xs.length + 1) cap) hd hm ?_ (kk b off cap _ ⟨by simpa using hroom, ho.max, p, junk.drop 1, hp, hupd.blk, ?_⟩ (hupd.kp _ (.inl (by simp))) (.inl rfl))
    · simp only [execOp, resolve, Sem.run_bind, Sem.run_pure, Result.andThen_ok, invoke, builtin, List.map_toArray, List.map_cons, List.map_nil, hx, hy, hr]
    · simp only [List.length_append, List.length_drop, List.length_cons, List.length_nil] at hcap hj0 ⊢; omega
  · have hsmall : xs.length + 1 ≤ 9223372036854775807 := by simp only [maxLen] at h63; omega
    have holds : ∀ j u, xs[j]? = some u → w.cell? ((⟨b, off, none⟩ : Addr).add j) = some u := fun j u hj => by rw [addr_lit]; exact ho.get hj
    have hr := run_append_grow (P := P) w t ty T _ z hu hi rfl ⟨b, off, none⟩ xs.length cap xs (by simp) holds ⟨by_, 0, none⟩ 1 cy [v] rfl hn (by omega) (by omega) (growslice_fits (by omega) hby)
    have hge := grownCap_ge w (xs.length + 1) cap T
    have hcm := grownCap_le_maxLen w (xs.length + 1) cap T h63
    have hup := upd_alloc w.drew (.cells (xs.toArray ++ [v].toArray ++ Builtin.zeroCells z.cells (grownCap w (xs.length + 1) cap T - (xs.length + 1))) T)
    have e1 : xs.toArray ++ [v].toArray ++ Builtin.zeroCells z.cells (grownCap w (xs.length + 1) cap T - (xs.length + 1)) = ⟨xs ++ [v] ++ (Builtin.zeroCells z.cells (grownCap w (xs.length + 1) cap T - (xs.length + 1))).toList⟩ := by apply Array.ext'; simp
    rw [e1] at hup hr
    refine ops_does (v := .slice (some ⟨w.heap.size, 0, none⟩) (xs.length + 1) (grownCap w (xs.length + 1) cap T)) hd hm ?_ (kk w.heap.size 0 _ _ ⟨by simpa using hge, hcm, [], (Builtin.zeroCells z.cells (grownCap w (xs.length + 1) cap T - (xs.length + 1))).toList, rfl, hup.at_, ?_⟩ (hup.drew.kp _ (.inr (Nat.le_refl _))) (.inr (Nat.le_refl _)))
    · simp only [execOp, resolve, Sem.run_bind, Sem.run_pure, Result.andThen_ok, invoke, builtin, List.map_toArray, List.map_cons, List.map_nil, hx, hy, hr]
    · simp only [List.length_append, Array.length_toList, size_zeroCells, hzs, List.length_cons, List.length_nil]; omega
end
end Go.Vc
