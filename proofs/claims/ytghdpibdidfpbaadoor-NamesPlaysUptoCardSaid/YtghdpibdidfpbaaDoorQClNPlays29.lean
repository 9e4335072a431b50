/- NamesPlays: same, keeps. -/
import Derived.Test.YtghdpibdidfpbaaDoorQClNPlays28
namespace Go.Vc
open Go Go.Proofs
set_option maxRecDepth 10000
variable {w : World}
theorem nsame_yes {a b : Option Addr} {ca cb n : Nat} {xs : List Value} (hn : xs.length = n) (hi : ∀ v ∈ xs, ∃ z : Int, v = I z) (h1 : ReadS w a xs) (h2 : ReadS w b xs) (hbig : n ≤ 4611686018427387904) :
    Ret Tryd.prog 38 [.slice a n ca, .slice b n cb] w (fun v w' => v = .bool true ∧ Kp [] w w') := by
  refine enter Tryd.call38 Tryd.func38 rfl rfl rfl rfl ?_
  (repeat first|refine zA ?_|refine zB ?_|refine zg ?_|refine zo rfl rfl trivial ?_|refine zn ?_)
  refine r_ifn rfl (fun hc => ?_) (fun hc => ?_)
  · exact absurd rfl hc
  (repeat first|refine zA ?_|refine zB ?_|refine zg ?_|refine zo rfl rfl trivial ?_|refine zn ?_|refine zb ?_|refine zk ?_)
  refine r_loop (α := Nat) [0, 1, 5] (fun i => [.slice a n ca, .slice b n cb, I i]) (fun i W => i ≤ n ∧ Kp [] w W) (fun i => n - i) 0 rfl ⟨by omega, Kp.refl _ _⟩ ?_
  rintro i e W ⟨hin, kW⟩
  (repeat first|refine zA ?_|refine zB ?_|refine zg ?_|refine zo rfl rfl trivial ?_|refine zn ?_)
  refine r_if rfl (fun hlt => ?_) (fun hlt => ?_)
  · have hlt : i < n := by omega
    obtain ⟨v, hv⟩ : ∃ v, xs[i]? = some v := ⟨_, List.getElem?_eq_getElem (by omega)⟩
    obtain ⟨z, rfl⟩ := hi v (List.mem_of_getElem? hv)
    obtain ⟨ba, oa, rfl, _, ca1⟩ := h1.at_ (by omega)
    obtain ⟨bb, ob, rfl, _, cb1⟩ := h2.at_ (by omega)
    have ka : ∀ W', Kp [] w W' → W'.cell? ⟨ba, oa + i, none⟩ = some (I z) := fun W' hk => by
      obtain ⟨b', off', he, _, hcc⟩ := (h1.kp hk (by simp)).at_ (by omega)
      cases he
      exact hcc i _ hv
    have kb : ∀ W', Kp [] w W' → W'.cell? ⟨bb, ob + i, none⟩ = some (I z) := fun W' hk => by
      obtain ⟨b', off', he, _, hcc⟩ := (h2.kp hk (by simp)).at_ (by omega)
      cases he
      exact hcc i _ hv
    (repeat first|refine zC ?_|refine zb ?_|refine zk ?_)
    refine r_seq ?_
    refine r_mix (fun W' => Kp [] W W') [(0, false), (1, false), (2, false), (3, false), (4, false), (5, false), (6, false), (7, false), (8, false)] follows_mixed (by kernel_rfl) (by kernel_rfl) (by kernel_rfl) ((Sm.drew _).kp _) ?_
    have kd := (Sm.drew W).kp []
    generalize ({ W with drawn := W.drawn + 1 } : World) = wd at kd ⊢
    (repeat refine xo rfl rfl (by first|exact trivial|(simp only[AllP];omega)) ?_)
    refine x_load (b := ba) (off := oa + i) (v := I z) rfl rfl (fun W' h' => ka W' (kW.trans h')) rfl rfl rfl rfl ?_
    (repeat refine xo rfl rfl (by first|exact trivial|(simp only[AllP];omega)) ?_)
    refine x_load (b := bb) (off := ob + i) (v := I z) rfl rfl (fun W' h' => kb W' (kW.trans h')) rfl rfl rfl rfl ?_
    (repeat first|refine xo rfl rfl trivial ?_|refine xn ?_)
    refine r_ifn rfl (fun hc => ?_) (fun hc => ?_)
    · exact absurd rfl hc
    (repeat first|refine zg ?_|refine zo rfl rfl (by first|exact trivial|(simp only[AllP];omega)) ?_|refine zn ?_|refine zk ?_)
    exact ⟨i + 1, rfl, ⟨by omega, kW.trans kd⟩, by omega⟩
  · (repeat first|refine zA ?_|refine zg ?_|refine zo rfl rfl trivial ?_|refine zn ?_|refine ze rfl ?_|refine zr ?_)
    exact ⟨_, rfl, rfl, kW⟩
theorem encJ_int {xs : List Nat} : ∀ v ∈ xs.map encJ, ∃ z : Int, v = I z := fun v hv => by obtain ⟨x, _, rfl⟩ := List.mem_map.1 hv; exact ⟨x, rfl⟩
variable {w0 : World} {g : DG}
theorem apart_add {F F' : DIx → List Nat} {i0 : DIx} (h : ∀ i j, i ≠ j → ∀ b, b ∈ F i → b ∉ F j) (hne : ∀ i, i ≠ i0 → F' i = F i) (hn : ∀ b, b ∈ F' i0 → ∀ j, j ≠ i0 → b ∉ F j) : ∀ i j, i ≠ j → ∀ b, b ∈ F' i → b ∉ F' j := by
  intro i j hij b hb hb2
  by_cases h1 : i = i0
  · subst h1
    rw [hne j (Ne.symm hij)] at hb2
    exact hn b hb j (Ne.symm hij) hb2
  · rw [hne i h1] at hb
    by_cases h2 : j = i0
    · subst h2
      exact hn b hb2 i hij hb
    · rw [hne j h2] at hb2
      exact h i j hij b hb hb2
theorem get_snoc {es : List KE} {e : KE} {i : Nat} : (es ++ [e])[i]? = if i = es.length then some e else es[i]? := by
  by_cases h : i < es.length
  · rw [List.getElem?_append_left h, if_neg (by omega)]
  · by_cases c : i = es.length
    · subst c; simp
    · rw [if_neg c, List.getElem?_eq_none (by simp; omega), List.getElem?_eq_none (by omega)]
/-- an entry more: the parts stay apart -/
theorem push_apart {e : KE} {aK' aW' : Option Addr} {cK' cW' : Nat} {B1 B2 : Nat} (ap : ∀ i j, i ≠ j → ∀ b, b ∈ g.F i → b ∉ g.F j) (hlt : ∀ i b, b ∈ g.F i → b < B1) (hB : B1 ≤ B2) (hK : ∀ b, b ∈ blkOf aK' → b ∈ blkOf g.aK ∨ B1 ≤ b) (hKlt : ∀ b, b ∈ blkOf aK' → b < B2) (hW : ∀ b, b ∈ blkOf aW' → b ∈ blkOf g.aW ∨ B2 ≤ b)
    (fk : ∀ b, b ∈ blkOf e.ak → b < B1 ∧ ∀ i, b ∉ g.F i) (fw : ∀ b, b ∈ blkOf e.aw → b < B1 ∧ (∀ i, b ∉ g.F i) ∧ b ∉ blkOf e.ak) :
    ∀ i j, i ≠ j → ∀ b, b ∈ ({ g with aK := aK', cK := cK', aW := aW', cW := cW', es := g.es ++ [e] } : DG).F i → b ∉ ({ g with aK := aK', cK := cK', aW := aW', cW := cW', es := g.es ++ [e] } : DG).F j := by
  let F1 : DIx → List Nat := fun i => match i with | .kr => blkOf aK' | i => g.F i
  let F2 : DIx → List Nat := fun i => match i with | .wr => blkOf aW' | i => F1 i
  let F3 : DIx → List Nat := fun i => match i with | .ek j => if j = g.es.length then blkOf e.ak else F2 (.ek j) | i => F2 i
  have a1 : ∀ i j, i ≠ j → ∀ b, b ∈ F1 i → b ∉ F1 j := apart_set (F := g.F) (F' := F1) (i0 := .kr) (B := B1) ap hlt (fun i hi => by cases i <;> first | rfl | exact absurd rfl hi) hK
  have l1 : ∀ i b, b ∈ F1 i → b < B2 := fun i b hb => by
    cases i with
    | kr => exact hKlt b hb
    | d => exact Nat.lt_of_lt_of_le (hlt .d b hb) hB
    | wr => exact Nat.lt_of_lt_of_le (hlt .wr b hb) hB
    | t k => exact Nat.lt_of_lt_of_le (hlt (.t k) b hb) hB
    | ek k => exact Nat.lt_of_lt_of_le (hlt (.ek k) b hb) hB
    | ew k => exact Nat.lt_of_lt_of_le (hlt (.ew k) b hb) hB
  have a2 : ∀ i j, i ≠ j → ∀ b, b ∈ F2 i → b ∉ F2 j := apart_set (F := F1) (F' := F2) (i0 := .wr) (B := B2) a1 l1 (fun i hi => by cases i <;> first | rfl | exact absurd rfl hi) hW
  have far : ∀ b, b < B1 → (∀ i, b ∉ g.F i) → ∀ i, b ∉ F2 i := fun b hb hn i hm => by
    cases i with
    | kr =>
      rcases hK b hm with h' | h'
      · exact hn .kr h'
      · omega
    | wr =>
      rcases hW b hm with h' | h'
      · exact hn .wr h'
      · omega
    | d => exact hn .d hm
    | t k => exact hn (.t k) hm
    | ek k => exact hn (.ek k) hm
    | ew k => exact hn (.ew k) hm
  have a3 : ∀ i j, i ≠ j → ∀ b, b ∈ F3 i → b ∉ F3 j := apart_add (F := F2) (F' := F3) (i0 := .ek g.es.length) a2 (fun i hi => by
    cases i with
    | ek j =>
      have hj : j ≠ g.es.length := fun c => hi (by rw [c])
      show (if j = g.es.length then blkOf e.ak else F2 (.ek j)) = F2 (.ek j)
      rw [if_neg hj]
    | _ => rfl) (fun b hb j _ => by
      have hb : b ∈ (if g.es.length = g.es.length then blkOf e.ak else F2 (.ek g.es.length)) := hb
      rw [if_pos rfl] at hb
      exact far b (fk b hb).1 (fk b hb).2 j)
  refine apart_add (F := F3) (i0 := .ew g.es.length) a3 (fun i hi => ?_) (fun b hb j hj => ?_)
  · cases i with
    | ek j =>
      show (match (g.es ++ [e])[j]? with | some e => blkOf e.ak | none => []) = (if j = g.es.length then blkOf e.ak else g.F (.ek j))
      rw [get_snoc]
      by_cases c : j = g.es.length
      · rw [if_pos c, if_pos c]
      · rw [if_neg c, if_neg c]; rfl
    | ew j =>
      have hj : j ≠ g.es.length := fun c => hi (by rw [c])
      show (match (g.es ++ [e])[j]? with | some e => blkOf e.aw | none => []) = g.F (.ew j)
      rw [get_snoc, if_neg hj]; rfl
    | _ => rfl
  · have hb : b ∈ (match (g.es ++ [e])[g.es.length]? with | some e => blkOf e.aw | none => []) := hb
    rw [get_snoc, if_pos rfl] at hb
    obtain ⟨h1, h2, h3⟩ := fw b hb
    intro hm
    cases j with
    | ek k =>
      have hm : b ∈ (if k = g.es.length then blkOf e.ak else F2 (.ek k)) := hm
      by_cases c : k = g.es.length
      · rw [if_pos c] at hm; exact h3 hm
      · rw [if_neg c] at hm; exact far b h1 h2 (.ek k) hm
    | d => exact far b h1 h2 .d hm
    | kr => exact far b h1 h2 .kr hm
    | wr => exact far b h1 h2 .wr hm
    | t k => exact far b h1 h2 (.t k) hm
    | ew k => exact far b h1 h2 (.ew k) hm
set_option maxHeartbeats 3200000 in
theorem keeps_ret (h : DS w0 w g) {e : KE} (hk : OwnS w 3 1 e.ak e.xs.length e.ck (e.xs.map encJ)) (hw : OwnS w 3 1 e.aw e.xs.length e.cw (e.xs.map encJ))
    (fk : ∀ b, b ∈ blkOf e.ak → w0.heap.size ≤ b ∧ ∀ i, b ∉ g.F i) (fw : ∀ b, b ∈ blkOf e.aw → w0.heap.size ≤ b ∧ (∀ i, b ∉ g.F i) ∧ b ∉ blkOf e.ak) (hcnt : g.es.length ≤ 1073741824) (hxs : e.xs.length ≤ 1073741824) :
    Ret Tryd.prog 30 [ptr g.W, e.kv, e.wv] w (fun v w' => v = .bool true ∧ Kp (g.W :: (blkOf g.aK ++ blkOf g.aW)) w w' ∧ ∃ aK cK aW cW, DS w0 w' { g with aK := aK, cK := cK, aW := aW, cW := cW, es := g.es ++ [e] }) := by
  obtain ⟨ak, ck, aw, cw, xs⟩ := e
  unfold KE.kv KE.wv
  dsimp only at hk hw fk fw hxs ⊢
  have hsz := h.size
  have aW : ∀ i, i ≠ .d → g.W ∉ g.F i := fun i hi hb => h.ap .d i (Ne.symm hi) g.W (by simp [DG.F]) hb
  refine enter Tryd.call30 Tryd.func30 rfl rfl rfl rfl ?_
  (repeat first|refine zA ?_|refine zg ?_|refine zo rfl rfl trivial ?_|refine zn ?_)
  refine o_load rfl h.hdr rfl rfl rfl rfl rfl ?_
  (repeat refine zo rfl rfl trivial ?_)
  refine o_buildSlice [.slice ak xs.length ck] rfl (by simp [Value.oneCell']) rfl (by decide) (by decide) rfl rfl rfl rfl rfl ?_
  intro b1 w1 hb1 hu1
  have k1 : Kp [] w w1 := hu1.kp [] (.inr (by omega))
  have h1 := h.kp0 k1
  refine o_append1 rfl rfl h1.kr hu1.blk rfl rfl rfl rfl (by simp only [maxLen]; omega) (by omega) rfl rfl ?_
  intro aK' cK' w2 ho2 kp2 hnew2
  have hW2 := kp2.blk (aW .kr (by simp)) h1.hdr
  (repeat refine zo rfl rfl trivial ?_)
  refine o_store rfl hW2 (by simp) rfl rfl rfl rfl rfl rfl ?_
  intro w3 hu3
  have hs1 := k1.size
  have hs2 := kp2.size
  have hs3 := hu3.size
  have hWlt := h.lt .d g.W (by simp [DG.F])
  have hWK : g.W ∉ blkOf aK' := fun hb => by
    rcases hnew2 g.W hb with h' | h'
    · exact aW .kr (by simp) h'
    · omega
  have ho3 := ho2.upd hu3 hWK
  have k13 : Kp (g.W :: blkOf g.aK) w1 w3 := (kp2.mono (fun b hb => by simp [hb])).trans (hu3.kp _ (.inl (by simp)))
  have hW3 := hu3.blk
  have awK : ∀ i, i ≠ .d → i ≠ .kr → ∀ b, b ∈ g.F i → b ∉ g.W :: blkOf g.aK := fun i hi hi2 b hb hm => by
    rcases List.mem_cons.1 hm with rfl | hm
    · exact aW i hi hb
    · exact h.ap i .kr hi2 b hb hm
  have hwr3 := h1.wr.kp k13 (fun b hb => awK .wr (by simp) (by simp) b hb)
  (repeat first|refine zA ?_|refine zg ?_|refine zo rfl rfl trivial ?_|refine zn ?_)
  refine o_load rfl hW3 rfl rfl rfl rfl rfl ?_
  (repeat refine zo rfl rfl trivial ?_)
  refine o_buildSlice [.slice aw xs.length cw] rfl (by simp [Value.oneCell']) rfl (by decide) (by decide) rfl rfl rfl rfl rfl ?_
  intro b4 w4 hb4 hu4
  have k34 : Kp [] w3 w4 := hu4.kp [] (.inr (by omega))
  refine o_append1 rfl rfl (hwr3.kp k34 (by simp)) hu4.blk rfl rfl rfl rfl (by simp only [maxLen]; omega) (by omega) rfl rfl ?_
  intro aW' cW' w5 ho5 kp5 hnew5
  have hs4 := k34.size
  have hs5 := kp5.size
  have hW5 := kp5.blk (aW .wr (by simp)) (k34.blk (by simp) hW3)
  (repeat refine zo rfl rfl trivial ?_)
  refine o_store rfl hW5 (by simp) rfl rfl rfl rfl rfl rfl ?_
  intro w6 hu6
  have hs6 := hu6.size
  have hWW : g.W ∉ blkOf aW' := fun hb => by
    rcases hnew5 g.W hb with h' | h'
    · exact aW .wr (by simp) h'
    · omega
  have ho6 := ho5.upd hu6 hWW
  have k36 : Kp (g.W :: blkOf g.aW) w3 w6 := (k34.mono (S' := g.W :: blkOf g.aW) (by simp)).trans ((kp5.mono (fun b hb => by simp [hb])).trans (hu6.kp _ (.inl (by simp))))
  have awW : ∀ i, i ≠ .d → i ≠ .wr → ∀ b, b ∈ g.F i → b ∉ g.W :: blkOf g.aW := fun i hi hi2 b hb hm => by
    rcases List.mem_cons.1 hm with rfl | hm
    · exact aW i hi hb
    · exact h.ap i .wr hi2 b hb hm
  have hKW : ∀ b, b ∈ blkOf aK' → b ∉ g.W :: blkOf g.aW := fun b hb hm => by
    rcases List.mem_cons.1 hm with rfl | hm
    · exact hWK hb
    · rcases hnew2 b hb with h' | h'
      · exact h.ap .kr .wr (by simp) b h' hm
      · have := h.lt .wr b hm; omega
  have hK6 := ho3.kp k36 hKW
  have hk6 := ((hk.kp k1 (by simp)).kp k13 (fun b hb hm => by
    rcases List.mem_cons.1 hm with rfl | hm
    · exact (fk _ hb).2 .d (by simp [DG.F])
    · exact (fk _ hb).2 .kr hm)).kp k36 (fun b hb hm => by
    rcases List.mem_cons.1 hm with rfl | hm
    · exact (fk _ hb).2 .d (by simp [DG.F])
    · exact (fk _ hb).2 .wr hm)
  have hw6 := ((hw.kp k1 (by simp)).kp k13 (fun b hb hm => by
    rcases List.mem_cons.1 hm with rfl | hm
    · exact (fw _ hb).2.1 .d (by simp [DG.F])
    · exact (fw _ hb).2.1 .kr hm)).kp k36 (fun b hb hm => by
    rcases List.mem_cons.1 hm with rfl | hm
    · exact (fw _ hb).2.1 .d (by simp [DG.F])
    · exact (fw _ hb).2.1 .wr hm)
  have hsame := nsame_yes (w := w6) (ca := ck) (cb := cw) (n := xs.length) (xs := xs.map encJ) (by simp) encJ_int hk6.read hw6.read (by omega)
  (repeat first|refine zA ?_|refine zg ?_|refine zo rfl rfl trivial ?_|refine zn ?_)
  refine o_call hsame rfl rfl rfl ?_
  rintro v w7 ⟨rfl, k67⟩
  (repeat first|refine zo rfl rfl trivial ?_|refine zn ?_|refine zr ?_)
  refine ⟨_, rfl, rfl, (((k1.mono (S' := g.W :: (blkOf g.aK ++ blkOf g.aW)) (by simp)).trans (k13.mono (fun b hb => by rcases List.mem_cons.1 hb with rfl | hb <;> simp [*]))).trans (k36.mono (fun b hb => by rcases List.mem_cons.1 hb with rfl | hb <;> simp [*]))).trans (k67.mono (by simp)), aK', cK', aW', cW', ?_⟩
  refine DS.kp0 (w := w6) ?_ k67
  have hlen : (g.es ++ [(⟨ak, ck, aw, cw, xs⟩ : KE)]).length = g.es.length + 1 := by simp
  have hKlt : ∀ b, b ∈ blkOf aK' → b < w3.heap.size := fun b hb => ho3.lt b hb
  have hWlt6 : ∀ b, b ∈ blkOf aW' → b < w6.heap.size := fun b hb => ho6.lt b hb
  have Fdt : ∀ i, (i = .d ∨ ∃ k, i = .t k) → ({ g with aK := aK', cK := cK', aW := aW', cW := cW', es := g.es ++ [⟨ak, ck, aw, cw, xs⟩] } : DG).F i = g.F i := fun i hi => by
    rcases hi with rfl | ⟨k, rfl⟩ <;> rfl
  have Fek : ∀ k, ({ g with aK := aK', cK := cK', aW := aW', cW := cW', es := g.es ++ [⟨ak, ck, aw, cw, xs⟩] } : DG).F (.ek k) = if k = g.es.length then blkOf ak else g.F (.ek k) := fun k => by
    show (match (g.es ++ [(⟨ak, ck, aw, cw, xs⟩ : KE)])[k]? with | some e => blkOf e.ak | none => []) = _
    rw [get_snoc]
    by_cases c : k = g.es.length
    · rw [if_pos c, if_pos c]
    · rw [if_neg c, if_neg c]; rfl
  have Few : ∀ k, ({ g with aK := aK', cK := cK', aW := aW', cW := cW', es := g.es ++ [⟨ak, ck, aw, cw, xs⟩] } : DG).F (.ew k) = if k = g.es.length then blkOf aw else g.F (.ew k) := fun k => by
    show (match (g.es ++ [(⟨ak, ck, aw, cw, xs⟩ : KE)])[k]? with | some e => blkOf e.aw | none => []) = _
    rw [get_snoc]
    by_cases c : k = g.es.length
    · rw [if_pos c, if_pos c]
    · rw [if_neg c, if_neg c]; rfl
  have lo : ∀ i b, b ∈ ({ g with aK := aK', cK := cK', aW := aW', cW := cW', es := g.es ++ [⟨ak, ck, aw, cw, xs⟩] } : DG).F i → w0.heap.size ≤ b ∧ b < w6.heap.size := fun i b hb => by
    have old : ∀ j, b ∈ g.F j → w0.heap.size ≤ b ∧ b < w6.heap.size := fun j hj => ⟨h.low j b hj, by have := h.lt j b hj; omega⟩
    cases i with
    | d => exact old .d hb
    | t k => exact old (.t k) hb
    | kr =>
      have hb : b ∈ blkOf aK' := hb
      refine ⟨?_, by have := hKlt b hb; omega⟩
      rcases hnew2 b hb with h' | h'
      · exact (old .kr h').1
      · omega
    | wr =>
      have hb : b ∈ blkOf aW' := hb
      refine ⟨?_, hWlt6 b hb⟩
      rcases hnew5 b hb with h' | h'
      · exact (old .wr h').1
      · omega
    | ek k =>
      rw [Fek k] at hb
      by_cases c : k = g.es.length
      · rw [if_pos c] at hb
        exact ⟨(fk b hb).1, by have := hk.lt b hb; omega⟩
      · rw [if_neg c] at hb; exact old (.ek k) hb
    | ew k =>
      rw [Few k] at hb
      by_cases c : k = g.es.length
      · rw [if_pos c] at hb
        exact ⟨(fw b hb).1, by have := hw.lt b hb; omega⟩
      · rw [if_neg c] at hb; exact old (.ew k) hb
  refine ⟨?_, fun k hk4 => ?_, ?_, ?_, fun i e he => ?_, fun i e he => ?_, fun i b hb => (lo i b hb).1, fun i b hb => (lo i b hb).2, push_apart (B1 := w1.heap.size) (B2 := w4.heap.size) h.ap (fun i b hb => by have := h.lt i b hb; omega) (by omega) hnew2 (fun b hb => by have := hKlt b hb; omega) hnew5 (fun b hb => ⟨by have := hk.lt b hb; omega, (fk b hb).2⟩) (fun b hb => ⟨by have := hw.lt b hb; omega, (fw b hb).2⟩), h.nd, fun i e he => ?_⟩
  · show Blk w6 g.W [g.v 0, g.v 1, g.v 2, g.v 3, .slice aK' (g.es ++ [_]).length cK', .slice aW' (g.es ++ [_]).length cW'] _
    rw [hlen]; exact hu6.blk
  · have hb4 : ∀ b, b ∈ g.f k → b ∈ g.F (.t k) := fun b hb => by rw [DG.Ft hk4]; exact hb
    exact ((h1.tb k hk4).kp k13 (fun b hb => awK (.t k) (by simp) (by simp) b (hb4 b hb))).kp k36 (fun b hb => awW (.t k) (by simp) (by simp) b (hb4 b hb))
  · show OwnS w6 _ 1 aK' (g.es ++ [_]).length cK' ((g.es ++ [_]).map KE.kv)
    rw [hlen, List.map_append]; exact hK6
  · show OwnS w6 _ 1 aW' (g.es ++ [_]).length cW' ((g.es ++ [_]).map KE.wv)
    rw [hlen, List.map_append]; exact ho6
  · have he : (g.es ++ [(⟨ak, ck, aw, cw, xs⟩ : KE)])[i]? = some e := he
    rw [get_snoc] at he
    by_cases c : i = g.es.length
    · rw [if_pos c] at he; cases he; exact hk6
    · rw [if_neg c] at he
      exact ((h1.ek i e he).kp k13 (fun b hb => awK (.ek i) (by simp) (by simp) b (by rw [DG.Fek he]; exact hb))).kp k36 (fun b hb => awW (.ek i) (by simp) (by simp) b (by rw [DG.Fek he]; exact hb))
  · have he : (g.es ++ [(⟨ak, ck, aw, cw, xs⟩ : KE)])[i]? = some e := he
    rw [get_snoc] at he
    by_cases c : i = g.es.length
    · rw [if_pos c] at he; cases he; exact hw6
    · rw [if_neg c] at he
      exact ((h1.ew i e he).kp k13 (fun b hb => awK (.ew i) (by simp) (by simp) b (by rw [DG.Few he]; exact hb))).kp k36 (fun b hb => awW (.ew i) (by simp) (by simp) b (by rw [DG.Few he]; exact hb))
  · have he : (g.es ++ [(⟨ak, ck, aw, cw, xs⟩ : KE)])[i]? = some e := he
    rw [get_snoc] at he
    by_cases c : i = g.es.length
    · rw [if_pos c] at he; cases he; exact hxs
    · rw [if_neg c] at he; exact h.xb i e he
end Go.Vc
