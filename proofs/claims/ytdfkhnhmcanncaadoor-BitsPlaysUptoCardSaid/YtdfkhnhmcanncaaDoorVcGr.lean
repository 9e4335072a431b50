/- append that tells whether the row has stayed where it was. -/
import Derived.Test.YtdfkhnhmcanncaaDoorVcApp
import Derived.Test.YtdfkhnhmcanncaaDoorVcRd
namespace Go.Vc
open Go
variable {P : Program} {n : Nat} {a : Act} {e : Env} {w : World} {K : EPost} {X : List (Nat × EPost)} {R : EPost} {all : List Oper} {G : List Nat} {ro : Option Nat}

theorem run_appendK {t ty T : TypeId} {td : TypeDesc} {tn : String} {size tby : Nat} {thp : Bool} {tal tfa : Nat} {z : Value} {tcm : Bool} {tms : Array Method}
    (hu : P.underlying t = some (.slice T)) (hi : P.info? T = some ⟨td, tn, size, tby, thp, tal, tfa, some z, tcm, tms⟩) (hzs : z.cells.size = size) (hsz : 0 < size)
    {ad : Option Addr} {n cap : Nat} {xs : List Value} (ho : OwnS w T size ad n cap xs) {ay : Addr} {m cy : Nat} {news : List Value} (hl : news.length = m * size) (hm0 : 0 < m) (hn : ∀ j v, news[j]? = some v → w.cell? (ay.add j) = some v) (h1 : ∀ v ∈ news, v.oneCell' = true)
    (h63 : n + m ≤ maxLen) (hby : (n + m) * tby ≤ 140737488355328) :
    ∃ ad' cap' w', (Builtin.append_ #[t, t] ty #[.slice ad n cap, .slice (some ay) m cy]).run P w = .ok (.slice ad' (n + m) cap') w' ∧ OwnS w' T size ad' (n + m) cap' (xs ++ news) ∧ Kp (blkOf ad) w w' ∧
      (∀ b, b ∈ blkOf ad' → b ∈ blkOf ad ∨ w.heap.size ≤ b) ∧ (ad' = ad ∨ (Kp [] w w' ∧ ∀ b, b ∈ blkOf ad' → w.heap.size ≤ b)) := by
  have hlen : (xs ++ news).length = (n + m) * size := by rw [List.length_append, ho.1, hl, Nat.add_mul]
  have hsmall : n + m ≤ 9223372036854775807 := by simp only [maxLen] at h63; omega
  have grow : ∀ old, old < n + m → OwnS (w.drew.alloc (.cells (xs.toArray ++ news.toArray ++ Builtin.zeroCells z.cells (grownCap w (n + m) old T - (n + m))) T)) T size (some ⟨w.heap.size, 0, none⟩) (n + m) (grownCap w (n + m) old T) (xs ++ news) ∧
      Kp [] w (w.drew.alloc (.cells (xs.toArray ++ news.toArray ++ Builtin.zeroCells z.cells (grownCap w (n + m) old T - (n + m))) T)) := by
    intro old hold
    have hge := grownCap_ge w (n + m) old T
    have hcm := grownCap_le_maxLen w (n + m) old T h63
    have hup := upd_alloc w.drew (.cells (xs.toArray ++ news.toArray ++ Builtin.zeroCells z.cells (grownCap w (n + m) old T - (n + m))) T)
    have e1 : xs.toArray ++ news.toArray ++ Builtin.zeroCells z.cells (grownCap w (n + m) old T - (n + m)) = ⟨xs ++ news ++ (Builtin.zeroCells z.cells (grownCap w (n + m) old T - (n + m))).toList⟩ := by apply Array.ext'; simp
    rw [e1] at hup ⊢
    refine ⟨⟨hlen, rfl, rfl, hge, hcm, _, hup.at_, ?_⟩, hup.drew.kp _ (.inr (Nat.le_refl _))⟩
    simp only [List.length_append, Array.length_toList, size_zeroCells, hzs, ho.1, hl, ← Nat.add_mul]
    congr 1
    omega
  cases ad with
  | none =>
    obtain ⟨rfl, rfl⟩ := ho.2
    have hx : xs = [] := List.eq_nil_of_length_eq_zero (by simpa using ho.1)
    subst hx
    have hg := grow 0 (by omega)
    have hr := run_append_nil (P := P) w t ty T _ z hu hi rfl ay m cy news hl hn hm0 (by omega) (by have hb := hby; simp only [Nat.zero_add] at hb; exact Nat.le_trans hb (by omega))
    simp only [Nat.zero_add, List.nil_append, Array.empty_append] at hg ⊢
    exact ⟨_, _, _, hr, hg.1, hg.2.mono (by simp), fun b hb => (by simp [blkOf] at hb; right; omega), .inr ⟨hg.2, fun b hb => (by simp [blkOf] at hb; omega)⟩⟩
  | some ad =>
    obtain ⟨b, off, spot⟩ := ad
    obtain ⟨ho0, hsp, hnc, hcm, junk, hB, hjl⟩ := ho.2
    dsimp only at ho0 hsp hB
    subst ho0 hsp
    by_cases hroom : n + m ≤ cap
    · have hfit : n * size + news.length ≤ (⟨xs ++ junk⟩ : Array Value).size := by
        show _ ≤ (xs ++ junk).length
        rw [hjl, hl, ← Nat.add_mul]; exact Nat.mul_le_mul_right _ hroom
      have hr := run_append_room (P := P) w t ty T _ hu hi b n cap ⟨xs ++ junk⟩ hB ay m cy news hl hn h1 hroom hfit
      have hnew : (List.take (n * size) (xs ++ junk) ++ news ++ List.drop (n * size + news.length) (xs ++ junk)).toArray = ⟨xs ++ news ++ junk.drop news.length⟩ := by
        apply Array.ext'
        show _ = xs ++ news ++ junk.drop news.length
        rw [← ho.1, List.take_left, List.drop_append, List.drop_of_length_le (by omega)]
        simp
      rw [hnew] at hr
      refine ⟨_, _, _, hr, ⟨hlen, rfl, rfl, hroom, hcm, junk.drop news.length, setRow_heap w b _ _ T _ hB, ?_⟩, (upd_setRow hB).kp _ (.inl (by simp [blkOf])), fun c hc => .inl hc, .inl rfl⟩
      have h2 : news.length ≤ junk.length := by
        have h3 : n * size + news.length ≤ (xs ++ junk).length := hfit
        rw [List.length_append, ho.1] at h3
        omega
      rw [List.length_append] at hjl
      simp only [List.length_append, List.length_drop]
      omega
    · have holds : ∀ j v, xs[j]? = some v → w.cell? ((⟨b, 0, none⟩ : Addr).add j) = some v := fun j v hv => by
        rw [addr_lit, Nat.zero_add]; exact hB.cell (by rw [List.getElem?_append_left (List.getElem?_eq_some_iff.1 hv).1]; exact hv)
      have hr := run_append_grow (P := P) w t ty T _ z hu hi rfl ⟨b, 0, none⟩ n cap xs ho.1 holds ay m cy news hl hn (by omega) (by omega) (growslice_fits (by omega) hby)
      have hg := grow cap (by omega)
      exact ⟨_, _, _, hr, hg.1, hg.2.mono (by simp), fun c hc => (by simp [blkOf] at hc; right; omega), .inr ⟨hg.2, fun b hb => (by simp [blkOf] at hb; omega)⟩⟩

section
variable {dst : Option Tmp} {ty : TypeId} {pos : String} {after : Array Edge} {g : Option (Nat × Bool)} {l : List Oper} {t : TypeId} {x y : Operand}

theorem o_appendK {T : TypeId} {td : TypeDesc} {tn : String} {size tby : Nat} {thp : Bool} {tal tfa : Nat} {z : Value} {tcm : Bool} {tms : Array Method}
    {ad : Option Addr} {k cap : Nat} {xs : List Value} {ay : Addr} {m cy : Nat} (news : List Value)
    (hx : ev e x = .slice ad k cap) (hy : ev e y = .slice (some ay) m cy) (ho : OwnS w T size ad k cap xs) (hn : ∀ j v, news[j]? = some v → w.cell? (ay.add j) = some v)
    (hu : P.underlying t = some (.slice T)) (hi : P.info? T = some ⟨td, tn, size, tby, thp, tal, tfa, some z, tcm, tms⟩) (hzs : z.cells.size = size) (hsz : 0 < size)
    (hl : news.length = m * size) (hm0 : 0 < m) (h1 : ∀ v ∈ news, v.oneCell' = true) (h63 : k + m ≤ maxLen) (hby : (k + m) * tby ≤ 140737488355328) (hd : dOk n dst = true) (hm : may all G e g = some true)
    (kk : ∀ ad' cap' w', OwnS w' T size ad' (k + m) cap' (xs ++ news) → Kp (blkOf ad) w w' → (∀ b, b ∈ blkOf ad' → b ∈ blkOf ad ∨ w.heap.size ≤ b) → (ad' = ad ∨ (Kp [] w w' ∧ ∀ b, b ∈ blkOf ad' → w.heap.size ≤ b)) → Ops ro P n all G K l (put e dst (.slice ad' (k + m) cap')) w') :
    Ops ro P n all G K (⟨dst, .call ⟨.builtin .append, #[x, y], #[t, t]⟩, ty, pos, after, g⟩ :: l) e w := by
  obtain ⟨ad', cap', w', hr, h2, h3, h4, h5⟩ := run_appendK (P := P) (ty := ty) (cy := cy) hu hi hzs hsz ho hl hm0 hn h1 h63 hby
  refine ops_does (v := .slice ad' (k + m) cap') (w' := w') hd hm ?_ (kk _ _ _ h2 h3 h4 h5)
  simp only [execOp, resolve, Sem.run_bind, Sem.run_pure, Result.andThen_ok, invoke, builtin, List.map_toArray, List.map_cons, List.map_nil, hx, hy, hr]

/-- append of what a block of its own holds -/
theorem o_append1K {T T' : TypeId} {td : TypeDesc} {tn : String} {tby : Nat} {thp : Bool} {tal tfa : Nat} {z : Value} {tcm : Bool} {tms : Array Method}
    {ad : Option Addr} {k cap : Nat} {xs : List Value} {by_ cy : Nat} {v : Value}
    (hx : ev e x = .slice ad k cap) (hy : ev e y = .slice (some ⟨by_, 0, none⟩) 1 cy) (ho : OwnS w T 1 ad k cap xs) (hb : Blk w by_ [v] T')
    (hu : P.underlying t = some (.slice T)) (hi : P.info? T = some ⟨td, tn, 1, tby, thp, tal, tfa, some z, tcm, tms⟩) (hzs : z.cells.size = 1) (h1 : v.oneCell' = true)
    (h63 : k + 1 ≤ maxLen) (hby : (k + 1) * tby ≤ 140737488355328) (hd : dOk n dst = true) (hm : may all G e g = some true)
    (kk : ∀ ad' cap' w', OwnS w' T 1 ad' (k + 1) cap' (xs ++ [v]) → Kp (blkOf ad) w w' → (∀ b, b ∈ blkOf ad' → b ∈ blkOf ad ∨ w.heap.size ≤ b) → (ad' = ad ∨ (Kp [] w w' ∧ ∀ b, b ∈ blkOf ad' → w.heap.size ≤ b)) → Ops ro P n all G K l (put e dst (.slice ad' (k + 1) cap')) w') :
    Ops ro P n all G K (⟨dst, .call ⟨.builtin .append, #[x, y], #[t, t]⟩, ty, pos, after, g⟩ :: l) e w :=
  o_appendK [v] hx hy ho (fun j u hj => by
    match j, hj with
    | 0, hj => simp at hj; subst hj; simp only [addr_lit, Nat.zero_add]; exact hb.cell rfl) hu hi hzs (by omega) rfl (by omega) (by simpa using h1) h63 hby hd hm kk

end
end Go.Vc
