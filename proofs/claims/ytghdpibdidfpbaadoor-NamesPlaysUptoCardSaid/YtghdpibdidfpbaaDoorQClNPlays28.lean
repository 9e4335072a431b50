/- append that tells whether the row has stayed where it was. -/
import Derived.Test.YtghdpibdidfpbaaDoorQClNPlays5
import Derived.Test.YtghdpibdidfpbaaDoorQClNPlays6
import Derived.Test.YtghdpibdidfpbaaDoorQClNPlays27
namespace Go.Vc
open Go
variable {P : Program} {n : Nat} {a : Act} {e : Env} {w : World} {K : EPost} {X : List (Nat × EPost)} {R : EPost} {all : List Oper} {G : List Nat} {ro : Option Nat}

theorem run_appendK {t ty T : TypeId} {td : TypeDesc} {tn : String} {size tby : Nat} {thp : Bool} {tal tfa : Nat} {z : Value} {tcm : Bool} {tms : Array Method}
    (hu : P.underlying t = some (.slice T)) (hi : P.info? T = some ⟨td, tn, size, tby, thp, tal, tfa, some z, tcm, tms⟩) (hzs : z.cells.size = size) (hsz : 0 < size)
    {ad : Option Addr} {n cap : Nat} {xs : List Value} (ho : OwnS w T size ad n cap xs) {ay : Addr} {m cy : Nat} {news : List Value} (hl : news.length = m * size) (hm0 : 0 < m) (hn : ∀ j v, news[j]? = some v → w.cell? (ay.add j) = some v) (h1 : ∀ v ∈ news, v.oneCell' = true)
    (h63 : n + m ≤ maxLen) (hby : (n + m) * tby ≤ 140737488355328) :
    ∃ ad' cap' w', (Builtin.append_ #[t, t] ty #[.slice ad n cap, .slice (some ay) m cy]).run P w = .ok (.slice ad' (n + m) cap') w' ∧ OwnS w' T size ad' (n + m) cap' (xs ++ news) ∧ Kp (blkOf ad) w w' ∧
      (∀ b, b ∈ blkOf ad' → b ∈ blkOf ad ∨ w.heap.size ≤ b) ∧ (ad' = ad ∨ (Kp [] w w' ∧ ∀ b, b ∈ blkOf ad' → w.heap.size ≤ b)) := by
  have hlen : (xs ++ news).length = (n + m) * size := by rw [List.length_append, ho.1, hl, Nat.add_mul]
  have hsmall : n + m ≤ 9223372036854775807 := by simp only [maxLen] at h63; omega
  have grow : ∀ old, old < n + m → OwnS (w.drew.alloc (.cells (xs.toArray ++ news.toArray ++ Builtin.zeroCells z.cells (grownCap w (n + m) old T - (n + m))) T)) T size (some ⟨w.heap.size, 0, none⟩) (n + m) (grownCap w (n + m) old T) (xs ++ news) ∧
      Kp [] w (w.drew.alloc (.cells (xs.toArray ++ news.toArray ++ Builtin.zeroCells z.cells (grownCap w (n + m) old T - (n + m))) T)) := by
    intro old hold
    have hge := grownCap_ge w (n + m) old T
    have hcm := grownCap_le_maxLen w (n + m) old T h63
    have hup := upd_alloc w.drew (.cells (xs.toArray ++ news.toArray ++ Builtin.zeroCells z.cells (grownCap w (n + m) old T - (n + m))) T)
    have e1 : xs.toArray ++ news.toArray ++ Builtin.zeroCells z.cells (grownCap w (n + m) old T - (n + m)) = ⟨xs ++ news ++ (Builtin.zeroCells z.cells (grownCap w (n + m) old T - (n + m))).toList⟩ := by apply Array.ext'; simp
    rw [e1] at hup ⊢
    refine ⟨⟨hlen, rfl, rfl, hge, hcm, _, hup.at_, ?_⟩, hup.drew.kp _ (.inr (Nat.le_refl _))⟩
    simp only [List.length_append, Array.length_toList, size_zeroCells, hzs, ho.1, hl, ← Nat.add_mul]
    congr 1
    omega
  cases ad with
  | none =>
    obtain ⟨rfl, rfl⟩ := ho.2
    have hx : xs = [] := List.eq_nil_of_length_eq_zero (by simpa using ho.1)
    subst hx
    have hg := grow 0 (by omega)
    have hr := run_append_nil (P := P) w t ty T _ z hu hi rfl ay m cy news hl hn hm0 (by omega) (by have hb := hby; simp only [Nat.zero_add] at hb; exact Nat.le_trans hb (by omega))
    simp only [Nat.zero_add, List.nil_append, Array.empty_append] at hg ⊢
    exact ⟨_, _, _, hr, hg.1, hg.2.mono (by simp), fun b hb => (by simp [blkOf] at hb; right; omega), .inr ⟨hg.2, fun b hb => (by simp [blkOf] at hb; omega)⟩⟩
  | some ad =>
    obtain ⟨b, off, spot⟩ := ad
    obtain ⟨ho0, hsp, hnc, hcm, junk, hB, hjl⟩ := ho.2
    dsimp only at ho0 hsp hB
    subst ho0 hsp
    by_cases hroom : n + m ≤ cap
    · have hfit : n * size + news.length ≤ (⟨xs ++ junk⟩ : Array Value).size := by
        show _ ≤ (xs ++ junk).length
        rw [hjl, hl, ← Nat.add_mul]; exact Nat.mul_le_mul_right _ hroom
      have hr := run_append_room (P := P) w t ty T _ hu hi b n cap ⟨xs ++ junk⟩ hB ay m cy news hl hn h1 hroom hfit
      have hnew : (List.take (n * size) (xs ++ junk) ++ news ++ List.drop (n * size + news.length) (xs ++ junk)).toArray = ⟨xs ++ news ++ junk.drop news.length⟩ := by
        apply Array.ext'
        show _ = xs ++ news ++ junk.drop news.length
        rw [← ho.1, List.take_left, List.drop_append, List.drop_of_length_le (by omega)]
        simp
      rw [hnew] at hr
      refine ⟨_, _, _, hr, ⟨hlen, rfl, rfl, hroom, hcm, junk.drop news.length, setRow_heap w b _ _ T _ hB, ?_⟩, (upd_setRow hB).kp _ (.inl (by simp [blkOf])), fun c hc => .inl hc, .inl rfl⟩
      have h2 : news.length ≤ junk.length := by
        have h3 : n * size + news.length ≤ (xs ++ junk).length := hfit
        rw [List.length_append, ho.1] at h3
        omega
      rw [List.length_append] at hjl
      simp only [List.length_append, List.length_drop]
      omega
    · have holds : ∀ j v, xs[j]? = some v → w.cell? ((⟨b, 0, none⟩ : Addr).add j) = some v := fun j v hv => by
        rw [addr_lit, Nat.zero_add]; exact hB.cell (by rw [List.getElem?_append_left (List.getElem?_eq_some_iff.1 hv).1]; exact hv)
      have hr := run_append_grow (P := P) w t ty T _ z hu hi rfl ⟨b, 0, none⟩ n cap xs ho.1 holds ay m cy news hl hn (by omega) (by omega) (growslice_fits (by omega) hby)
      have hg := grow cap (by omega)
      exact ⟨_, _, _, hr, hg.1, hg.2.mono (by simp), fun c hc => (by simp [blkOf] at hc; right; omega), .inr ⟨hg.2, fun b hb => (by simp [blkOf] at hb; omega)⟩⟩

section
variable {dst : Option Tmp} {ty : TypeId} {pos : String} {after : Array Edge} {g : Option (Nat × Bool)} {l : List Oper} {t : TypeId} {x y : Operand}

theorem o_appendK {T : TypeId} {td : TypeDesc} {tn : String} {size tby : Nat} {thp : Bool} {tal tfa : Nat} {z : Value} {tcm : Bool} {tms : Array Method}
    {ad : Option Addr} {k cap : Nat} {xs : List Value} {ay : Addr} {m cy : Nat} (news : List Value)
    (hx : ev e x = .slice ad k cap) (hy : ev e y = .slice (some ay) m cy) (ho : OwnS w T size ad k cap xs) (hn : ∀ j v, news[j]? = some v → w.cell? (ay.add j) = some v)
    (hu : P.underlying t = some (.slice T)) (hi : P.info? T = some ⟨td, tn, size, tby, thp, tal, tfa, some z, tcm, tms⟩) (hzs : z.cells.size = size) (hsz : 0 < size)
    (hl : news.length = m * size) (hm0 : 0 < m) (h1 : ∀ v ∈ news, v.oneCell' = true) (h63 : k + m ≤ maxLen) (hby : (k + m) * tby ≤ 140737488355328) (hd : dOk n dst = true) (hm : may all G e g = some true)
    (kk : ∀ ad' cap' w', OwnS w' T size ad' (k + m) cap' (xs ++ news) → Kp (blkOf ad) w w' → (∀ b, b ∈ blkOf ad' → b ∈ blkOf ad ∨ w.heap.size ≤ b) → (ad' = ad ∨ (Kp [] w w' ∧ ∀ b, b ∈ blkOf ad' → w.heap.size ≤ b)) → Ops ro P n all G K l (put e dst (.slice ad' (k + m) cap')) w') :
    Ops ro P n all G K (⟨dst, .call ⟨.builtin .append, #[x, y], #[t, t]⟩, ty, pos, after, g⟩ :: l) e w := by
  obtain ⟨ad', cap', w', hr, h2, h3, h4, h5⟩ := run_appendK (P := P) (ty := ty) (cy := cy) hu hi hzs hsz ho hl hm0 hn h1 h63 hby
  refine ops_does (v := .slice ad' (k + m) cap') (w' := w') hd hm ?_ (kk _ _ _ h2 h3 h4 h5)
  simp only [execOp, resolve, Sem.run_bind, Sem.run_pure, Result.andThen_ok, invoke, builtin, List.map_toArray, List.map_cons, List.map_nil, hx, hy, hr]

/-- append of what a block of its own holds -/
theorem o_append1K {T T' : TypeId} {td : TypeDesc} {tn : String} {tby : Nat} {thp : Bool} {tal tfa : Nat} {z : Value} {tcm : Bool} {tms : Array Method}
    {ad : Option Addr} {k cap : Nat} {xs : List Value} {by_ cy : Nat} {v : Value}
    (hx : ev e x = .slice ad k cap) (hy : ev e y = .slice (some ⟨by_, 0, none⟩) 1 cy) (ho : OwnS w T 1 ad k cap xs) (hb : Blk w by_ [v] T')
    (hu : P.underlying t = some (.slice T)) (hi : P.info? T = some ⟨td, tn, 1, tby, thp, tal, tfa, some z, tcm, tms⟩) (hzs : z.cells.size = 1) (h1 : v.oneCell' = true)
    (h63 : k + 1 ≤ maxLen) (hby : (k + 1) * tby ≤ 140737488355328) (hd : dOk n dst = true) (hm : may all G e g = some true)
    (kk : ∀ ad' cap' w', OwnS w' T 1 ad' (k + 1) cap' (xs ++ [v]) → Kp (blkOf ad) w w' → (∀ b, b ∈ blkOf ad' → b ∈ blkOf ad ∨ w.heap.size ≤ b) → (ad' = ad ∨ (Kp [] w w' ∧ ∀ b, b ∈ blkOf ad' → w.heap.size ≤ b)) → Ops ro P n all G K l (put e dst (.slice ad' (k + 1) cap')) w') :
    Ops ro P n all G K (⟨dst, .call ⟨.builtin .append, #[x, y], #[t, t]⟩, ty, pos, after, g⟩ :: l) e w :=
  o_appendK [v] hx hy ho (fun j u hj => by
    match j, hj with
    | 0, hj => simp at hj; subst hj; simp only [addr_lit, Nat.zero_add]; exact hb.cell rfl) hu hi hzs (by omega) rfl (by omega) (by simpa using h1) h63 hby hd hm kk

end
end Go.Vc
/- NamesPlays: the desk: its state, frames; same, keeps. -/
namespace Go.Vc
open Go Go.Proofs
set_option maxRecDepth 10000
variable {w : World}
def setN {α : Type} (f : Nat → α) (k : Nat) (x : α) : Nat → α := fun i => if i = k then x else f i
theorem setN_same {α : Type} {f : Nat → α} {k : Nat} {x : α} : setN f k x k = x := by unfold setN; rw [if_pos rfl]
theorem setN_ne {α : Type} {f : Nat → α} {k i : Nat} {x : α} (h : i ≠ k) : setN f k x i = f i := by unfold setN; rw [if_neg h]
/-- a table of the program's, or none -/
def TabO (w : World) (v : Value) (fp : List Nat) : Option (List Str) → Prop
  | none => NoTab w v ∧ ∀ p, v = ptr p → fp = [p]
  | some l => ∃ p m ad cap, v = ptr p ∧ Tab w p fp l m ad cap
/-- a table of the document's, or none -/
def TabR (w : World) (v : Value) (fp : List Nat) : Option (List Str) → Prop
  | none => v = .pointer none ∧ fp = []
  | some l => ∃ q ad cap, v = ptr q ∧ fp = rfp q ad ∧ RTab w q l ad cap
def TP (k : Nat) (w : World) (v : Value) (fp : List Nat) (o : Option (List Str)) : Prop := if k < 2 then TabO w v fp o else TabR w v fp o
theorem TabO.kp {w w' : World} {v : Value} {fp S : List Nat} {o : Option (List Str)} (h : TabO w v fp o) (hk : Kp S w w') (hd : ∀ b, b ∈ fp → b ∉ S) : TabO w' v fp o := by
  cases o with
  | none =>
    refine ⟨?_, h.2⟩
    rcases h.1 with h1 | ⟨p, h1, hb⟩
    · exact .inl h1
    · exact .inr ⟨p, h1, hk.blk (hd p (by rw [h.2 p h1]; simp)) hb⟩
  | some l =>
    obtain ⟨p, m, ad, cap, h1, h2⟩ := h
    exact ⟨p, m, ad, cap, h1, h2.kp hk hd⟩
theorem TabR.kp {w w' : World} {v : Value} {fp S : List Nat} {o : Option (List Str)} (h : TabR w v fp o) (hk : Kp S w w') (hd : ∀ b, b ∈ fp → b ∉ S) : TabR w' v fp o := by
  cases o with
  | none => exact h
  | some l =>
    obtain ⟨q, ad, cap, h1, rfl, h2⟩ := h
    exact ⟨q, ad, cap, h1, rfl, h2.kp hk hd⟩
theorem TP.kp {k : Nat} {w w' : World} {v : Value} {fp S : List Nat} {o : Option (List Str)} (h : TP k w v fp o) (hk : Kp S w w') (hd : ∀ b, b ∈ fp → b ∉ S) : TP k w' v fp o := by
  unfold TP at *
  split
  · rename_i c; rw [if_pos c] at h; exact TabO.kp h hk hd
  · rename_i c; rw [if_neg c] at h; exact TabR.kp h hk hd
theorem TabO.ptr {v : Value} {fp : List Nat} {o : Option (List Str)} (h : TabO w v fp o) : ∃ p, v = .pointer p := by
  cases o with
  | none => exact h.1.ptr
  | some l => obtain ⟨p, _, _, _, h1, _⟩ := h; exact ⟨_, h1⟩
theorem TabR.ptr {v : Value} {fp : List Nat} {o : Option (List Str)} (h : TabR w v fp o) : ∃ p, v = .pointer p := by
  cases o with
  | none => exact ⟨_, h.1⟩
  | some l => obtain ⟨q, _, _, h1, _⟩ := h; exact ⟨_, h1⟩
/-- a list that was answered, and the document's -/
structure KE where
  ak : Option Addr
  ck : Nat
  aw : Option Addr
  cw : Nat
  xs : List Nat
def KE.kv (e : KE) : Value := .slice e.ak e.xs.length e.ck
def KE.wv (e : KE) : Value := .slice e.aw e.xs.length e.cw
structure DG where
  W : Nat
  v : Nat → Value
  f : Nat → List Nat
  o : Nat → Option (List Str)
  aK : Option Addr
  cK : Nat
  aW : Option Addr
  cW : Nat
  es : List KE
/-- the parts -/
inductive DIx where
  | d
  | kr
  | wr
  | t (k : Nat)
  | ek (i : Nat)
  | ew (i : Nat)
def DG.F (g : DG) : DIx → List Nat
  | .d => [g.W]
  | .kr => blkOf g.aK
  | .wr => blkOf g.aW
  | .t k => if k < 4 then g.f k else []
  | .ek i => match g.es[i]? with | some e => blkOf e.ak | none => []
  | .ew i => match g.es[i]? with | some e => blkOf e.aw | none => []
structure DS (w0 w : World) (g : DG) : Prop where
  hdr : Blk w g.W [g.v 0, g.v 1, g.v 2, g.v 3, .slice g.aK g.es.length g.cK, .slice g.aW g.es.length g.cW] 51
  tb : ∀ k, k < 4 → TP k w (g.v k) (g.f k) (g.o k)
  kr : OwnS w 34 1 g.aK g.es.length g.cK (g.es.map KE.kv)
  wr : OwnS w 34 1 g.aW g.es.length g.cW (g.es.map KE.wv)
  ek : ∀ (i : Nat) (e : KE), g.es[i]? = some e → OwnS w 3 1 e.ak e.xs.length e.ck (e.xs.map encJ)
  ew : ∀ (i : Nat) (e : KE), g.es[i]? = some e → OwnS w 3 1 e.aw e.xs.length e.cw (e.xs.map encJ)
  low : ∀ i b, b ∈ g.F i → w0.heap.size ≤ b
  lt : ∀ i b, b ∈ g.F i → b < w.heap.size
  ap : ∀ i j, i ≠ j → ∀ b, b ∈ g.F i → b ∉ g.F j
  nd : ∀ k, k < 4 → ∀ l, g.o k = some l → l.Nodup
  xb : ∀ (i : Nat) (e : KE), g.es[i]? = some e → e.xs.length ≤ 1073741824
variable {w0 : World} {g : DG}
theorem DS.size (h : DS w0 w g) : w0.heap.size ≤ w.heap.size := Nat.le_of_lt (Nat.lt_of_le_of_lt (h.low .d g.W (by simp [DG.F])) (h.lt .d g.W (by simp [DG.F])))
theorem DG.Ft {k : Nat} (hk : k < 4) : g.F (.t k) = g.f k := by simp [DG.F, hk]
theorem DG.Fek {i : Nat} {e : KE} (h : g.es[i]? = some e) : g.F (.ek i) = blkOf e.ak := by simp [DG.F, h]
theorem DG.Few {i : Nat} {e : KE} (h : g.es[i]? = some e) : g.F (.ew i) = blkOf e.aw := by simp [DG.F, h]
/-- what touches no part leaves all -/
theorem DS.frame {w' : World} {S : List Nat} (h : DS w0 w g) (hk : Kp S w w') (hS : ∀ i b, b ∈ g.F i → b ∉ S) : DS w0 w' g :=
  ⟨hk.blk (hS .d g.W (by simp [DG.F])) h.hdr, fun k hk4 => (h.tb k hk4).kp hk (fun b hb => hS (.t k) b (by rw [DG.Ft hk4]; exact hb)), h.kr.kp hk (hS .kr), h.wr.kp hk (hS .wr),
    fun i e he => (h.ek i e he).kp hk (fun b hb => hS (.ek i) b (by rw [DG.Fek (g := g) he]; exact hb)), fun i e he => (h.ew i e he).kp hk (fun b hb => hS (.ew i) b (by rw [DG.Few (g := g) he]; exact hb)),
    h.low, fun i b hb => Nat.lt_of_lt_of_le (h.lt i b hb) hk.size, h.ap, h.nd, h.xb⟩
theorem DS.kp0 {w' : World} (h : DS w0 w g) (hk : Kp [] w w') : DS w0 w' g := h.frame hk (fun _ _ _ => by simp)
/-- one part is another now -/
theorem apart_set {F F' : DIx → List Nat} {B : Nat} {i0 : DIx} (h : ∀ i j, i ≠ j → ∀ b, b ∈ F i → b ∉ F j) (hlt : ∀ i b, b ∈ F i → b < B) (hne : ∀ i, i ≠ i0 → F' i = F i) (hn : ∀ b, b ∈ F' i0 → b ∈ F i0 ∨ B ≤ b) : ∀ i j, i ≠ j → ∀ b, b ∈ F' i → b ∉ F' j := by
  intro i j hij b hb hb2
  by_cases h1 : i = i0
  · subst h1
    rw [hne j (Ne.symm hij)] at hb2
    rcases hn b hb with h2 | h2
    · exact h i j hij b h2 hb2
    · have := hlt j b hb2; omega
  · rw [hne i h1] at hb
    by_cases h2 : j = i0
    · subst h2
      rcases hn b hb2 with h3 | h3
      · exact h i j hij b hb h3
      · have := hlt i b hb; omega
    · rw [hne j h2] at hb2
      exact h i j hij b hb hb2
/-- one table turns in its place -/
theorem DS.tab {w' : World} {k : Nat} {fp' : List Nat} {o' : Option (List Str)} (h : DS w0 w g) (hk : k < 4) (hkp : Kp (g.f k) w w') (hT : TP k w' (g.v k) fp' o') (hnew : ∀ b, b ∈ fp' → b ∈ g.f k ∨ w.heap.size ≤ b) (hlt : ∀ b, b ∈ fp' → b < w'.heap.size) (hnd : ∀ l, o' = some l → l.Nodup) :
    DS w0 w' { g with f := setN g.f k fp', o := setN g.o k o' } := by
  have hs := h.size
  have away : ∀ i, i ≠ .t k → ∀ b, b ∈ g.F i → b ∉ g.f k := fun i hi b hb hb2 => h.ap i (.t k) hi b hb (by rw [DG.Ft hk]; exact hb2)
  have hF : ∀ i, i ≠ .t k → ({ g with f := setN g.f k fp', o := setN g.o k o' } : DG).F i = g.F i := fun i hi => by
    cases i with
    | t j =>
      have hjk : j ≠ k := fun e => hi (by rw [e])
      simp only [DG.F, setN_ne hjk]
    | _ => rfl
  have hFk : ({ g with f := setN g.f k fp', o := setN g.o k o' } : DG).F (.t k) = fp' := by rw [DG.Ft hk]; exact setN_same
  refine ⟨hkp.blk (away .d (by simp) g.W (by simp [DG.F])) h.hdr, fun j hj => ?_, h.kr.kp hkp (fun b hb => away .kr (by simp) b hb), h.wr.kp hkp (fun b hb => away .wr (by simp) b hb),
    fun i e he => (h.ek i e he).kp hkp (fun b hb => away (.ek i) (by simp) b (by rw [DG.Fek (g := g) he]; exact hb)), fun i e he => (h.ew i e he).kp hkp (fun b hb => away (.ew i) (by simp) b (by rw [DG.Few (g := g) he]; exact hb)), fun i b hb => ?_, fun i b hb => ?_, apart_set h.ap h.lt hF (by rw [hFk]; intro b hb; rw [DG.Ft hk]; exact hnew b hb), fun j hj l hl => ?_, h.xb⟩
  · by_cases c : j = k
    · subst c
      show TP j w' (g.v j) (setN g.f j fp' j) (setN g.o j o' j)
      rw [setN_same, setN_same]; exact hT
    · show TP j w' (g.v j) (setN g.f k fp' j) (setN g.o k o' j)
      rw [setN_ne c, setN_ne c]
      exact (h.tb j hj).kp hkp (fun b hb => away (.t j) (by simp [c]) b (by rw [DG.Ft hj]; exact hb))
  · by_cases c : i = .t k
    · subst c
      rw [hFk] at hb
      rcases hnew b hb with h1 | h1
      · exact h.low (.t k) b (by rw [DG.Ft hk]; exact h1)
      · omega
    · rw [hF i c] at hb; exact h.low i b hb
  · by_cases c : i = .t k
    · subst c
      rw [hFk] at hb
      exact hlt b hb
    · rw [hF i c] at hb; exact Nat.lt_of_lt_of_le (h.lt i b hb) hkp.size
  · have hl : setN g.o k o' j = some l := hl
    by_cases c : j = k
    · subst c; rw [setN_same] at hl; exact hnd l hl
    · rw [setN_ne c] at hl; exact h.nd j hj l hl
/-- the desk's cells -/
def DG.cells (g : DG) (v : Nat → Value) : List Value := [v 0, v 1, v 2, v 3, .slice g.aK g.es.length g.cK, .slice g.aW g.es.length g.cW]
/-- another table is put in a place -/
theorem DS.put {w' : World} {k : Nat} {v' : Value} {fp' : List Nat} {o' : Option (List Str)} (h : DS w0 w g) (hk : k < 4) (hT : TP k w v' fp' o') (hu : Upd w g.W (.cells ⟨g.cells (setN g.v k v')⟩ 51 (0, 0)) w')
    (hfr : ∀ b, b ∈ fp' → w0.heap.size ≤ b ∧ b < w.heap.size ∧ ∀ i, i ≠ .t k → b ∉ g.F i) (hnd : ∀ l, o' = some l → l.Nodup) :
    DS w0 w' { g with v := setN g.v k v', f := setN g.f k fp', o := setN g.o k o' } := by
  have hkp : Kp [g.W] w w' := hu.kp [g.W] (.inl (by simp))
  have away : ∀ i, i ≠ .d → ∀ b, b ∈ g.F i → b ∉ [g.W] := fun i hi b hb hb2 => h.ap i .d hi b hb (by simpa [DG.F] using hb2)
  have hF : ∀ i, i ≠ .t k → ({ g with v := setN g.v k v', f := setN g.f k fp', o := setN g.o k o' } : DG).F i = g.F i := fun i hi => by
    cases i with
    | t j =>
      have hjk : j ≠ k := fun e => hi (by rw [e])
      simp only [DG.F, setN_ne hjk]
    | _ => rfl
  have hFk : ({ g with v := setN g.v k v', f := setN g.f k fp', o := setN g.o k o' } : DG).F (.t k) = fp' := by rw [DG.Ft hk]; exact setN_same
  refine ⟨hu.blk, fun j hj => ?_, h.kr.kp hkp (fun b hb => away .kr (by simp) b hb), h.wr.kp hkp (fun b hb => away .wr (by simp) b hb),
    fun i e he => (h.ek i e he).kp hkp (fun b hb => away (.ek i) (by simp) b (by rw [DG.Fek (g := g) he]; exact hb)), fun i e he => (h.ew i e he).kp hkp (fun b hb => away (.ew i) (by simp) b (by rw [DG.Few (g := g) he]; exact hb)), fun i b hb => ?_, fun i b hb => ?_, fun i j hij b hb hb2 => ?_, fun j hj l hl => ?_, h.xb⟩
  · by_cases c : j = k
    · subst c
      show TP j w' (setN g.v j v' j) (setN g.f j fp' j) (setN g.o j o' j)
      rw [setN_same, setN_same, setN_same]
      exact hT.kp hkp (fun b hb hb2 => (hfr b hb).2.2 .d (by simp) (by simpa [DG.F] using hb2))
    · show TP j w' (setN g.v k v' j) (setN g.f k fp' j) (setN g.o k o' j)
      rw [setN_ne c, setN_ne c, setN_ne c]
      exact (h.tb j hj).kp hkp (fun b hb => away (.t j) (by simp) b (by rw [DG.Ft hj]; exact hb))
  · by_cases c : i = .t k
    · subst c
      rw [hFk] at hb
      exact (hfr b hb).1
    · rw [hF i c] at hb; exact h.low i b hb
  · by_cases c : i = .t k
    · subst c
      rw [hFk] at hb
      exact Nat.lt_of_lt_of_le (hfr b hb).2.1 hkp.size
    · rw [hF i c] at hb; exact Nat.lt_of_lt_of_le (h.lt i b hb) hkp.size
  · by_cases c : i = .t k
    · subst c
      rw [hFk] at hb
      rw [hF j (Ne.symm hij)] at hb2
      exact (hfr b hb).2.2 j (Ne.symm hij) hb2
    · rw [hF i c] at hb
      by_cases c2 : j = .t k
      · subst c2
        rw [hFk] at hb2
        exact (hfr b hb2).2.2 i c hb
      · rw [hF j c2] at hb2
        exact h.ap i j hij b hb hb2
  · have hl : setN g.o k o' j = some l := hl
    by_cases c : j = k
    · subst c; rw [setN_same] at hl; exact hnd l hl
    · rw [setN_ne c] at hl; exact h.nd j hj l hl
end Go.Vc
