/- What came in: slices of structs, read cell by cell. -/
import Derived.Test.YtkgjibhbhddckaaQClTells12
import Derived.Deep.Slices
import Derived.ChangeArms
import Derived.Test.YtkgjibhbhddckaaQClTells5
import Derived.Test.YtkgjibhbhddckaaQClTells15
import Derived.Test.YtkgjibhbhddckaaQClTells7
import Derived.Test.YtkgjibhbhddckaaQClTells35
namespace Go.Vc
open Go
variable {H : Type} {enc : TypeId × Value → H} {P : Program} {w : World} {base : Nat} {spare : Nat → Bool} {held : Bool}

/-- one cell that is an integer -/
theorem trod_int {t : TypeId} {k : IntKind} {fuel : Nat} {v : Value} {x : DataW H × List MemPlace} (ht : P.underlying t = some (.int k)) (h : DataW.trod enc P w base spare held fuel t [v] = some x) : ∃ z, v = .int k z ∧ (Lit.int k z).wf = true := by
  cases fuel with
  | zero => simp [DataW.trod] at h
  | succ n =>
    unfold DataW.trod at h
    rw [ht] at h
    cases v <;> simp at h
    obtain ⟨⟨rfl, hw⟩, _⟩ := h
    exact ⟨_, rfl, hw⟩
/-- a slice of structs of m cells: its elements' cells; each element has its own reading -/
theorem trod_recs {t e : TypeId} {m : Nat} {fuel : Nat} {a : Option Addr} {len cap : Nat} {x : DataW H × List MemPlace} (ht : P.underlying t = some (.slice e)) (hm : P.cellsOf e = m) (h : DataW.trod enc P w base spare held fuel t [.slice a len cap] = some x) :
    ∃ (n : Nat) (Cs : List (List Value)) (D : List (DataW H)), Cs.length = len ∧ D.length = len ∧ ReadS w a Cs.flatten ∧ (∀ (i : Nat) (cs : List Value), Cs[i]? = some cs → cs.length = m ∧ ∃ (d : DataW H) (p : List MemPlace), D[i]? = some d ∧ DataW.trod enc P w base spare held n e cs = some (d, p)) ∧ (x.1 = .nil ∧ D = [] ∨ ∃ sp, x.1 = .slice D sp) ∧ len ≤ cap ∧ cap ≤ maxLen := by
  rcases Go.Deep.open_slice ht h with ⟨hc, rfl⟩ | ⟨a', len', cap', mm, n, D, Pl, hc, _, hl, hcap, hmm, rfl, hx⟩
  · simp at hc
    obtain ⟨rfl, rfl, rfl⟩ := hc
    exact ⟨0, [], [], rfl, rfl, rfl, fun i cs h => by simp at h, .inl ⟨rfl, rfl⟩, Nat.le_refl _, Nat.zero_le _⟩
  · simp at hc
    obtain ⟨rfl, rfl, rfl⟩ := hc
    have hle : len ≤ mm := by rw [hmm]; split <;> omega
    rw [hm] at hx
    have key : ∀ k, k ≤ len → ∃ Cs : List (List Value), Cs.length = k ∧ ReadS w (some a') Cs.flatten ∧ Cs.flatten.length = k * m ∧ ∀ (i : Nat) (cs : List Value), Cs[i]? = some cs → cs.length = m ∧ DataW.trod enc P w base spare held n e cs = some (D i, Pl i) := by
      intro k
      induction k with
      | zero => intro _; exact ⟨[], rfl, (fun i v h => by simp at h), by simp, fun i cs h => by simp at h⟩
      | succ k ih =>
        intro hk
        obtain ⟨Cs, h1, h2, h3, h4⟩ := ih (by omega)
        obtain ⟨cs', g1, g2⟩ := hx k (by omega)
        obtain ⟨_, g3, g4⟩ := World.cells?_some g1
        refine ⟨Cs ++ [cs'], by simp [h1], fun i v hv => ?_, ?_, fun i cs hcs => ?_⟩
        · rw [List.flatten_append] at hv
          by_cases hi : i < k * m
          · rw [List.getElem?_append_left (by omega)] at hv
            exact h2 i v hv
          · rw [List.getElem?_append_right (by omega), h3] at hv
            simp at hv
            have hlt : i - k * m < m := by have := (List.getElem?_eq_some_iff.1 hv).1; omega
            have := g4 _ hlt
            rw [hv] at this
            rw [← this]
            have hi' : k * m ≤ i := by omega
            have ea : (a'.add (k * m)).add (i - k * m) = a'.add i := by
              generalize k * m = z at hi'
              unfold Addr.add
              by_cases h0 : z = 0
              · subst h0; simp
              · by_cases h1 : i - z = 0
                · have : i = z := by omega
                  subst this; simp
                · rw [if_neg h0, if_neg h1, if_neg (by omega)]
                  simp; omega
            rw [ea]
        · rw [List.flatten_append, List.length_append, h3]; simp [g3, Nat.succ_mul]
        · by_cases hi : i < k
          · rw [List.getElem?_append_left (by omega)] at hcs
            exact h4 i cs hcs
          · have hik : i = k := by
              have := (List.getElem?_eq_some_iff.1 hcs).1
              simp [h1] at this; omega
            subst hik
            rw [List.getElem?_append_right (by omega), h1] at hcs
            simp at hcs; subst hcs
            exact ⟨g3, g2⟩
    obtain ⟨Cs, h1, h2, h3, h4⟩ := key len (Nat.le_refl _)
    refine ⟨n, Cs, (List.range len).map D, h1, by simp, h2, fun i cs hcs => ?_, .inr ⟨_, rfl⟩, hl, hcap⟩
    have hi : i < len := by rw [← h1]; exact (List.getElem?_eq_some_iff.1 hcs).1
    obtain ⟨g1, g2⟩ := h4 i cs hcs
    exact ⟨g1, D i, Pl i, by simp [hi], g2⟩
end Go.Vc
/- append that tells whether the row has stayed where it was. -/
namespace Go.Vc
open Go
variable {P : Program} {n : Nat} {a : Act} {e : Env} {w : World} {K : EPost} {X : List (Nat × EPost)} {R : EPost} {all : List Oper} {G : List Nat} {ro : Option Nat}

theorem run_appendK {t ty T : TypeId} {td : TypeDesc} {tn : String} {size tby : Nat} {thp : Bool} {tal tfa : Nat} {z : Value} {tcm : Bool} {tms : Array Method}
    (hu : P.underlying t = some (.slice T)) (hi : P.info? T = some ⟨td, tn, size, tby, thp, tal, tfa, some z, tcm, tms⟩) (hzs : z.cells.size = size) (hsz : 0 < size)
    {ad : Option Addr} {n cap : Nat} {xs : List Value} (ho : OwnS w T size ad n cap xs) {ay : Addr} {m cy : Nat} {news : List Value} (hl : news.length = m * size) (hm0 : 0 < m) (hn : ∀ j v, news[j]? = some v → w.cell? (ay.add j) = some v) (h1 : ∀ v ∈ news, v.oneCell' = true)
    (h63 : n + m ≤ maxLen) (hby : (n + m) * tby ≤ 140737488355328) :
    ∃ ad' cap' w', (Builtin.append_ #[t, t] ty #[.slice ad n cap, .slice (some ay) m cy]).run P w = .ok (.slice ad' (n + m) cap') w' ∧ OwnS w' T size ad' (n + m) cap' (xs ++ news) ∧ Kp (blkOf ad) w w' ∧
      (∀ b, b ∈ blkOf ad' → b ∈ blkOf ad ∨ w.heap.size ≤ b) ∧ (ad' = ad ∨ (Kp [] w w' ∧ ∀ b, b ∈ blkOf ad' → w.heap.size ≤ b)) := by
  have hlen : (xs ++ news).length = (n + m) * size := by rw [List.length_append, ho.1, hl, Nat.add_mul]
  have hsmall : n + m ≤ 9223372036854775807 := by simp only [maxLen] at h63; omega
  have grow : ∀ old, old < n + m → OwnS (w.drew.alloc (.cells (xs.toArray ++ news.toArray ++ Builtin.zeroCells z.cells (grownCap w (n + m) old T - (n + m))) T)) T size (some ⟨w.heap.size, 0, none⟩) (n + m) (grownCap w (n + m) old T) (xs ++ news) ∧
      Kp [] w (w.drew.alloc (.cells (xs.toArray ++ news.toArray ++ Builtin.zeroCells z.cells (grownCap w (n + m) old T - (n + m))) T)) := by
    intro old hold
    have hge := grownCap_ge w (n + m) old T
    have hcm := grownCap_le_maxLen w (n + m) old T h63
    have hup := upd_alloc w.drew (.cells (xs.toArray ++ news.toArray ++ Builtin.zeroCells z.cells (grownCap w (n + m) old T - (n + m))) T)
    have e1 : xs.toArray ++ news.toArray ++ Builtin.zeroCells z.cells (grownCap w (n + m) old T - (n + m)) = ⟨xs ++ news ++ (Builtin.zeroCells z.cells (grownCap w (n + m) old T - (n + m))).toList⟩ := by apply Array.ext'; simp
    rw [e1] at hup ⊢
    refine ⟨⟨hlen, rfl, rfl, hge, hcm, _, hup.at_, ?_⟩, hup.drew.kp _ (.inr (Nat.le_refl _))⟩
    simp only [List.length_append, Array.length_toList, size_zeroCells, hzs, ho.1, hl, ← Nat.add_mul]
    congr 1
    omega
  cases ad with
  | none =>
    obtain ⟨rfl, rfl⟩ := ho.2
    have hx : xs = [] := List.eq_nil_of_length_eq_zero (by simpa using ho.1)
    subst hx
    have hg := grow 0 (by omega)
    have hr := run_append_nil (P := P) w t ty T _ z hu hi rfl ay m cy news hl hn hm0 (by omega) (by have hb := hby; simp only [Nat.zero_add] at hb; exact Nat.le_trans hb (by omega))
    simp only [Nat.zero_add, List.nil_append, Array.empty_append] at hg ⊢
    exact ⟨_, _, _, hr, hg.1, hg.2.mono (by simp), fun b hb => (by simp [blkOf] at hb; right; omega), .inr ⟨hg.2, fun b hb => (by simp [blkOf] at hb; omega)⟩⟩
  | some ad =>
    obtain ⟨b, off, spot⟩ := ad
    obtain ⟨ho0, hsp, hnc, hcm, junk, hB, hjl⟩ := ho.2
    dsimp only at ho0 hsp hB
    subst ho0 hsp
    by_cases hroom : n + m ≤ cap
    · have hfit : n * size + news.length ≤ (⟨xs ++ junk⟩ : Array Value).size := by
        show _ ≤ (xs ++ junk).length
        rw [hjl, hl, ← Nat.add_mul]; exact Nat.mul_le_mul_right _ hroom
      have hr := run_append_room (P := P) w t ty T _ hu hi b n cap ⟨xs ++ junk⟩ hB ay m cy news hl hn h1 hroom hfit
      have hnew : (List.take (n * size) (xs ++ junk) ++ news ++ List.drop (n * size + news.length) (xs ++ junk)).toArray = ⟨xs ++ news ++ junk.drop news.length⟩ := by
        apply Array.ext'
        show _ = xs ++ news ++ junk.drop news.length
        rw [← ho.1, List.take_left, List.drop_append, List.drop_of_length_le (by omega)]
        simp
      rw [hnew] at hr
      refine ⟨_, _, _, hr, ⟨hlen, rfl, rfl, hroom, hcm, junk.drop news.length, setRow_heap w b _ _ T _ hB, ?_⟩, (upd_setRow hB).kp _ (.inl (by simp [blkOf])), fun c hc => .inl hc, .inl rfl⟩
      have h2 : news.length ≤ junk.length := by
        have h3 : n * size + news.length ≤ (xs ++ junk).length := hfit
        rw [List.length_append, ho.1] at h3
        omega
      rw [List.length_append] at hjl
      simp only [List.length_append, List.length_drop]
      omega
    · have holds : ∀ j v, xs[j]? = some v → w.cell? ((⟨b, 0, none⟩ : Addr).add j) = some v := fun j v hv => by
        rw [addr_lit, Nat.zero_add]; exact hB.cell (by rw [List.getElem?_append_left (List.getElem?_eq_some_iff.1 hv).1]; exact hv)
      have hr := run_append_grow (P := P) w t ty T _ z hu hi rfl ⟨b, 0, none⟩ n cap xs ho.1 holds ay m cy news hl hn (by omega) (by omega) (growslice_fits (by omega) hby)
      have hg := grow cap (by omega)
      exact ⟨_, _, _, hr, hg.1, hg.2.mono (by simp), fun c hc => (by simp [blkOf] at hc; right; omega), .inr ⟨hg.2, fun b hb => (by simp [blkOf] at hb; omega)⟩⟩

section
variable {dst : Option Tmp} {ty : TypeId} {pos : String} {after : Array Edge} {g : Option (Nat × Bool)} {l : List Oper} {t : TypeId} {x y : Operand}

theorem o_appendK {T : TypeId} {td : TypeDesc} {tn : String} {size tby : Nat} {thp : Bool} {tal tfa : Nat} {z : Value} {tcm : Bool} {tms : Array Method}
    {ad : Option Addr} {k cap : Nat} {xs : List Value} {ay : Addr} {m cy : Nat} (news : List Value)
    (hx : ev e x = .slice ad k cap) (hy : ev e y = .slice (some ay) m cy) (ho : OwnS w T size ad k cap xs) (hn : ∀ j v, news[j]? = some v → w.cell? (ay.add j) = some v)
    (hu : P.underlying t = some (.slice T)) (hi : P.info? T = some ⟨td, tn, size, tby, thp, tal, tfa, some z, tcm, tms⟩) (hzs : z.cells.size = size) (hsz : 0 < size)
    (hl : news.length = m * size) (hm0 : 0 < m) (h1 : ∀ v ∈ news, v.oneCell' = true) (h63 : k + m ≤ maxLen) (hby : (k + m) * tby ≤ 140737488355328) (hd : dOk n dst = true) (hm : may all G e g = some true)
    (kk : ∀ ad' cap' w', OwnS w' T size ad' (k + m) cap' (xs ++ news) → Kp (blkOf ad) w w' → (∀ b, b ∈ blkOf ad' → b ∈ blkOf ad ∨ w.heap.size ≤ b) → (ad' = ad ∨ (Kp [] w w' ∧ ∀ b, b ∈ blkOf ad' → w.heap.size ≤ b)) → Ops ro P n all G K l (put e dst (.slice ad' (k + m) cap')) w') :
    Ops ro P n all G K (⟨dst, .call ⟨.builtin .append, #[x, y], #[t, t]⟩, ty, pos, after, g⟩ :: l) e w := by
  obtain ⟨ad', cap', w', hr, h2, h3, h4, h5⟩ := run_appendK (P := P) (ty := ty) (cy := cy) hu hi hzs hsz ho hl hm0 hn h1 h63 hby
  refine ops_does (v := .slice ad' (k + m) cap') (w' := w') hd hm ?_ (kk _ _ _ h2 h3 h4 h5)
  simp only [execOp, resolve, Sem.run_bind, Sem.run_pure, Result.andThen_ok, invoke, builtin, List.map_toArray, List.map_cons, List.map_nil, hx, hy, hr]

end
end Go.Vc
/- rows of records that grow by append, the old row still told. -/
namespace Go.Vc
open Go
variable {P : Program} {w : World}
section
variable {α : Type} {f : α → List Value} {m : Nat} {T : TypeId}
/-- the row ad grew out of the row adr, which still tells rs -/
structure Gw (w : World) (T : TypeId) (m : Nat) (f : α → List Value) (adr : Option Addr) (rs : List α) (ad : Option Addr) (cap : Nat) (ms : List α) : Prop where
  own : OwnS w T m ad ms.length cap (ms.flatMap f)
  read : ReadS w adr (rs.flatMap f)
  pre : rs = ms.take rs.length
  dis : ad = adr ∨ ∀ b, b ∈ blkOf ad → b ∉ blkOf adr
  lt : ∀ b, b ∈ blkOf adr → b < w.heap.size
theorem Gw.of {adr : Option Addr} {cap : Nat} {rs : List α} (h : OwnS w T m adr rs.length cap (rs.flatMap f)) : Gw w T m f adr rs adr cap rs :=
  ⟨h, h.readN, (List.take_length).symm, .inl rfl, h.lt⟩
theorem Gw.kp {w' : World} {S : List Nat} {adr ad : Option Addr} {cap : Nat} {rs ms : List α} (h : Gw w T m f adr rs ad cap ms) (hk : Kp S w w') (h1 : ∀ b, b ∈ blkOf ad → b ∉ S) (h2 : ∀ b, b ∈ blkOf adr → b ∉ S) : Gw w' T m f adr rs ad cap ms :=
  ⟨h.own.kp hk h1, h.read.kp hk h2, h.pre, h.dis, fun b hb => Nat.lt_of_lt_of_le (h.lt b hb) hk.size⟩
theorem flatMap_take (hf : ∀ x, (f x).length = m) : ∀ (l : List α) (k : Nat), (l.take k).flatMap f = (l.flatMap f).take (k * m)
  | [], k => by simp
  | x :: r, 0 => by simp
  | x :: r, k + 1 => by
    have e1 : (k + 1) * m - (f x).length = k * m := by rw [hf, Nat.add_mul]; omega
    have e2 : (f x).length ≤ (k + 1) * m := by rw [hf, Nat.add_mul]; omega
    rw [List.take_succ_cons, List.flatMap_cons, List.flatMap_cons, flatMap_take hf r k, List.take_append, e1, List.take_of_length_le e2]
theorem Gw.push {w' : World} {adr ad ad' : Option Addr} {cap cap' : Nat} {rs ms : List α} {x : α} (hf : ∀ x, (f x).length = m) (h : Gw w T m f adr rs ad cap ms) (ho : OwnS w' T m ad' (ms.length + 1) cap' (ms.flatMap f ++ f x)) (hk : Kp (blkOf ad) w w') (hn : ad' = ad ∨ (Kp [] w w' ∧ ∀ b, b ∈ blkOf ad' → w.heap.size ≤ b)) :
    Gw w' T m f adr rs ad' cap' (ms ++ [x]) := by
  have ho' : OwnS w' T m ad' (ms ++ [x]).length cap' ((ms ++ [x]).flatMap f) := by rw [List.length_append, List.flatMap_append]; simpa using ho
  have hle : rs.length ≤ ms.length := by have := congrArg List.length h.pre; rw [List.length_take] at this; omega
  have hpre : rs = (ms ++ [x]).take rs.length := by rw [List.take_append_of_le_length hle]; exact h.pre
  have hlt : ∀ b, b ∈ blkOf adr → b < w'.heap.size := fun b hb => Nat.lt_of_lt_of_le (h.lt b hb) hk.size
  rcases hn with rfl | ⟨k0, hn⟩
  · refine ⟨ho', ?_, hpre, h.dis, hlt⟩
    rcases h.dis with rfl | hd
    · rw [hpre, flatMap_take hf]; exact ho'.readN.take _
    · exact h.read.kp hk (fun b hb hb2 => hd b hb2 hb)
  · exact ⟨ho', h.read.kp k0 (by simp), hpre, .inr (fun b hb hb2 => by have := hn b hb; have := h.lt b hb2; omega), hlt⟩
end
section
variable {n : Nat} {a : Act} {e : Env} {K : EPost} {all : List Oper} {G : List Nat} {ro : Option Nat} {dst : Option Tmp} {ty : TypeId} {pos : String} {after : Array Edge} {g : Option (Nat × Bool)} {l : List Oper} {t : TypeId} {x y : Operand}
/-- a row, perhaps empty, appended to nothing -/
theorem o_cloneR {T : TypeId} {td : TypeDesc} {tn : String} {size tby : Nat} {thp : Bool} {tal tfa : Nat} {z : Value} {tcm : Bool} {tms : Array Method} {nad : Option Addr} {k ncap : Nat} (xs : List Value)
    (hx : ev e x = .slice none 0 0) (hy : ev e y = .slice nad k ncap) (hr : ReadS w nad xs) (hk : xs.length = k * size) (h1 : ∀ v ∈ xs, v.oneCell' = true)
    (hu : P.underlying t = some (.slice T)) (hi : P.info? T = some ⟨td, tn, size, tby, thp, tal, tfa, some z, tcm, tms⟩) (hzs : z.cells.size = size) (hsz : 0 < size) (h63 : k ≤ maxLen) (hby : k * tby ≤ 140737488355328) (hd : dOk n dst = true) (hm : may all G e g = some true)
    (kk : ∀ ad' cap' w', OwnS w' T size ad' k cap' xs → Kp [] w w' → (∀ b, b ∈ blkOf ad' → w.heap.size ≤ b) → Ops ro P n all G K l (put e dst (.slice ad' k cap')) w') :
    Ops ro P n all G K (⟨dst, .call ⟨.builtin .append, #[x, y], #[t, t]⟩, ty, pos, after, g⟩ :: l) e w := by
  by_cases h0 : k = 0
  · subst h0
    have hxs : xs = [] := List.eq_nil_of_length_eq_zero (by omega)
    subst hxs
    exact o_append0 hx hy (Nat.le_refl _) hu hi hd hm (kk none 0 w (ownS_nil _ _ _) (Kp.refl _ _) (by simp [blkOf]))
  · have hpos : 0 < xs.length := by rw [hk]; exact Nat.mul_pos (by omega) hsz
    obtain ⟨b, off, rfl, _, _⟩ := hr.at_ hpos
    refine o_append xs hx hy (ownS_nil w T size) (fun j v hv => hr j v hv) hu hi hzs hsz hk (by omega) h1 (by omega) (by rw [Nat.zero_add]; exact hby) hd hm ?_
    intro ad' cap' w' ho hk' hn
    have e0 : 0 + k = k := Nat.zero_add k
    rw [e0] at ho ⊢
    exact kk ad' cap' w' ho hk' (fun b hb => by
      rcases hn b hb with q | q
      · simp [blkOf] at q
      · exact q)
end
end Go.Vc
/- order: OrderChains. -/
namespace Go.Vc
open Go Go.Proofs
set_option maxRecDepth 10000
variable {w : World}
/-- a row of ints of one's own is overwritten, one by one -/
theorem OwnS.wr1 {ad : Option Addr} {n cap : Nat} {xs : List Int} (h : OwnS w 3 1 ad n cap (xs.map I)) {i : Nat} (hi : i < n) (y : Int) :
    ∃ b L, ad = some ⟨b, 0, none⟩ ∧ Blk w b L 3 ∧ i < L.length ∧ ∀ w', Upd w b (.cells ⟨L.set i (I y)⟩ 3 (0, 0)) w' → OwnS w' 3 1 ad n cap ((xs.set i y).map I) := by
  obtain ⟨b, L, h1, h2, h3, h4⟩ := h.wr hi
  exact ⟨b, L, h1, h2, h3, fun w' hu => by rw [List.map_set]; exact h4 (I y) w' hu⟩
section
variable {P : Program} {n : Nat} {e : Env} {K : EPost} {all : List Oper} {G : List Nat} {ro : Option Nat} {dst : Option Tmp} {ty : TypeId} {pos : String} {after : Array Edge} {g : Option (Nat × Bool)} {l : List Oper} {t : TypeId} {x y : Operand}
/-- append(nil, xs...) -/
theorem o_cloneN {T : TypeId} {td : TypeDesc} {tn : String} {tby : Nat} {thp : Bool} {tal tfa : Nat} {z : Value} {tcm : Bool} {tms : Array Method} {nad : Option Addr} {k ncap : Nat} (xs : List Value)
    (hx : ev e x = .slice none 0 0) (hy : ev e y = .slice nad k ncap) (hr : ReadS w nad xs) (hk : xs.length = k) (h1 : ∀ v ∈ xs, v.oneCell' = true)
    (hu : P.underlying t = some (.slice T)) (hi : P.info? T = some ⟨td, tn, 1, tby, thp, tal, tfa, some z, tcm, tms⟩) (hzs : z.cells.size = 1) (h63 : k ≤ maxLen) (hby : k * tby ≤ 140737488355328) (hd : dOk n dst = true) (hm : may all G e g = some true)
    (kk : ∀ ad' cap' w', OwnS w' T 1 ad' k cap' xs → Kp [] w w' → (∀ b, b ∈ blkOf ad' → w.heap.size ≤ b) → Ops ro P n all G K l (put e dst (.slice ad' k cap')) w') :
    Ops ro P n all G K (⟨dst, .call ⟨.builtin .append, #[x, y], #[t, t]⟩, ty, pos, after, g⟩ :: l) e w := by
  by_cases h0 : k = 0
  · subst h0
    have hxs : xs = [] := List.eq_nil_of_length_eq_zero hk
    subst hxs
    exact o_append0 hx hy (Nat.le_refl _) hu hi hd hm (kk none 0 w (ownS_nil _ _ _) (Kp.refl _ _) (by simp [blkOf]))
  · obtain ⟨b, off, rfl, _, _⟩ := hr.at_ (by omega)
    refine o_append xs hx hy (ownS_nil w T 1) (fun j v hv => hr j v hv) hu hi hzs (by omega) (by omega) (by omega) h1 (by omega) (by rw [Nat.zero_add]; exact hby) hd hm ?_
    intro ad' cap' w' ho hk' hn
    have e0 : 0 + k = k := Nat.zero_add k
    rw [e0] at ho ⊢
    exact kk ad' cap' w' ho hk' (fun b hb => by
      rcases hn b hb with q | q
      · simp [blkOf] at q
      · exact q)
end
end Go.Vc
