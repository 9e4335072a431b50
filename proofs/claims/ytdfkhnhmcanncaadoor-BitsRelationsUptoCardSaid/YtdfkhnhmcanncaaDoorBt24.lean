/- bits: BitsCloses: lists of nodes, the search. -/
import Derived.Test.YtdfkhnhmcanncaaDoorBt23
import Derived.Test.YtdfkhnhmcanncaaDoorVcAg
namespace Go.Vc
open Go Go.Proofs
set_option maxRecDepth 10000
variable {w : World}

section
variable {P : Program} {n : Nat} {e : Env} {K : EPost} {all : List Oper} {G : List Nat} {ro : Option Nat} {dst : Option Tmp} {ty : TypeId} {pos : String} {after : Array Edge} {g : Option (Nat × Bool)} {l : List Oper} {t : TypeId} {x y : Operand}
/-- append of a slice that is read, be it empty -/
theorem o_appendS {T : TypeId} {td : TypeDesc} {tn : String} {tby : Nat} {thp : Bool} {tal tfa : Nat} {z : Value} {tcm : Bool} {tms : Array Method}
    {ad ay : Option Addr} {k cap m cy : Nat} {xs : List Value} (news : List Value) (hx : ev e x = .slice ad k cap) (hy : ev e y = .slice ay m cy) (ho : OwnS w T 1 ad k cap xs) (hr : ReadS w ay news)
    (hu : P.underlying t = some (.slice T)) (hi : P.info? T = some ⟨td, tn, 1, tby, thp, tal, tfa, some z, tcm, tms⟩) (hzs : z.cells.size = 1)
    (hl : news.length = m) (h1 : ∀ v ∈ news, v.oneCell' = true) (h63 : k + m ≤ maxLen) (hby : (k + m) * tby ≤ 140737488355328) (hd : dOk n dst = true) (hm : may all G e g = some true)
    (kk : ∀ ad' cap' w', OwnS w' T 1 ad' (k + m) cap' (xs ++ news) → Kp (blkOf ad) w w' → (∀ b, b ∈ blkOf ad' → b ∈ blkOf ad ∨ w.heap.size ≤ b) → Ops ro P n all G K l (put e dst (.slice ad' (k + m) cap')) w') :
    Ops ro P n all G K (⟨dst, .call ⟨.builtin .append, #[x, y], #[t, t]⟩, ty, pos, after, g⟩ :: l) e w := by
  by_cases h0 : m = 0
  · subst h0
    have : news = [] := List.eq_nil_of_length_eq_zero hl
    subst this
    refine o_append0 hx hy ho.le_cap hu hi hd hm ?_
    have := kk ad cap w (by rw [Nat.add_zero, List.append_nil]; exact ho) (Kp.refl _ _) (fun b hb => .inl hb)
    rwa [Nat.add_zero] at this
  · obtain ⟨b, off, rfl, _, hc⟩ := hr.at_ (by omega)
    exact o_append news hx hy ho (fun j v hv => by rw [addr_lit]; exact hc j v hv) hu hi hzs (by omega) (by omega) (by omega) h1 h63 hby hd hm kk
end

/-! ### Lists of nodes, one for each node -/
structure WasAt (w : World) (bw n : Nat) (As : List (Option Addr × Nat)) (Ws : List (List Nat)) : Prop where
  blk : Blk w bw ((List.range n).map fun i => Value.slice (As.getD i (none, 0)).1 (Ws.getD i []).length (As.getD i (none, 0)).2) 22
  nA : As.length = n
  nW : Ws.length = n
  row : ∀ i, i < n → OwnS w 3 1 (As.getD i (none, 0)).1 (Ws.getD i []).length (As.getD i (none, 0)).2 ((Ws.getD i []).map encI)
  sep : ∀ i j, i < n → j < n → i ≠ j → ∀ b, b ∈ blkOf (As.getD i (none, 0)).1 → b ∉ blkOf (As.getD j (none, 0)).1
def wasBlks (bw n : Nat) (As : List (Option Addr × Nat)) : List Nat := bw :: (List.range n).flatMap fun i => blkOf (As.getD i (none, 0)).1
theorem mem_wasBlks {bw n : Nat} {As : List (Option Addr × Nat)} {b : Nat} : b ∈ wasBlks bw n As ↔ b = bw ∨ ∃ i, i < n ∧ b ∈ blkOf (As.getD i (none, 0)).1 := by
  unfold wasBlks
  rw [List.mem_cons, List.mem_flatMap]
  constructor
  · rintro (h | ⟨i, h1, h2⟩)
    · exact .inl h
    · exact .inr ⟨i, by simpa using h1, h2⟩
  · rintro (h | ⟨i, h1, h2⟩)
    · exact .inl h
    · exact .inr ⟨i, by simpa using h1, h2⟩
theorem OwnS.typed {T : TypeId} {size : Nat} {ad : Option Addr} {n cap : Nat} {xs : List Value} (h : OwnS w T size ad n cap xs) {b : Nat} (hb : b ∈ blkOf ad) : ∃ l, Blk w b l T := by
  have ho := h.2
  cases ad with
  | none => simp [blkOf] at hb
  | some ad =>
    simp [blkOf] at hb; subst hb
    obtain ⟨_, _, _, _, junk, h5, _⟩ := ho
    exact ⟨_, h5⟩
section
variable {bw n : Nat} {As : List (Option Addr × Nat)} {Ws : List (List Nat)}
theorem WasAt.typed (h : WasAt w bw n As Ws) {b : Nat} (hb : b ∈ wasBlks bw n As) : ∃ l T, Blk w b l T ∧ (T = 22 ∨ T = 3) := by
  rcases mem_wasBlks.1 hb with rfl | ⟨i, hi, hb⟩
  · exact ⟨_, _, h.blk, .inl rfl⟩
  · obtain ⟨l, hl⟩ := (h.row i hi).typed hb
    exact ⟨l, _, hl, .inr rfl⟩
theorem WasAt.kp {w' : World} (h : WasAt w bw n As Ws) {S : List Nat} (hk : Kp S w w') (hd : ∀ b, b ∈ wasBlks bw n As → b ∉ S) : WasAt w' bw n As Ws :=
  ⟨hk.blk (hd bw (by simp [wasBlks])) h.blk, h.nA, h.nW, fun i hi => (h.row i hi).kp hk (fun b hb => hd b (mem_wasBlks.2 (.inr ⟨i, hi, hb⟩))), h.sep⟩
theorem WasAt.kp0 {w' : World} (h : WasAt w bw n As Ws) (hk : Kp [] w w') : WasAt w' bw n As Ws := h.kp hk (by simp)
theorem RelAt.typed3 {p m : Nat} {bs : List Nat} {M : List (List Nat)} {ad : Option Addr} {cap : Nat} (h : RelAt w p m bs M ad cap) : ∀ b, b ∈ relBlks p ad bs → ∃ l T, Blk w b l T ∧ (T = 100 ∨ T = 40 ∨ T = 41) := by
  intro b hb
  rcases List.mem_cons.1 hb with rfl | hb
  · exact ⟨_, _, h.hdr, .inl rfl⟩
  · rcases List.mem_append.1 hb with hb | hb
    · obtain ⟨l, hl⟩ := h.ad_blk hb; exact ⟨l, _, hl, .inr (.inl rfl)⟩
    · obtain ⟨i, hi⟩ := List.getElem?_of_mem hb
      have hlt : i < m := by rw [← h.nb]; exact (List.getElem?_eq_some_iff.1 hi).1
      obtain ⟨b', ws, h1, _, h3, _⟩ := h.at_row hlt
      rw [hi] at h1; cases h1; exact ⟨_, _, h3, .inr (.inr rfl)⟩
theorem was_rel {p m : Nat} {bs : List Nat} {M : List (List Nat)} {ad : Option Addr} {cap : Nat} (h : WasAt w bw n As Ws) (r : RelAt w p m bs M ad cap) : ∀ b, b ∈ wasBlks bw n As → b ∉ relBlks p ad bs := by
  intro b hb hr
  obtain ⟨l1, T1, h1, t1⟩ := h.typed hb
  obtain ⟨l2, T2, h2, t2⟩ := r.typed3 b hr
  refine relRow_ne h1 h2 ?_ rfl
  rcases t1 with rfl | rfl <;> rcases t2 with rfl | rfl | rfl <;> decide
theorem getDset {α : Type} (l : List α) (x : α) (j : Nat) {i : Nat} (hi : i < l.length) {d : α} : (l.set i x).getD j d = if i = j then x else l.getD j d := by
  rw [List.getD_eq_getElem?_getD, List.getD_eq_getElem?_getD, List.getElem?_set]
  by_cases e : i = j
  · subst e; rw [if_pos rfl, if_pos hi, if_pos rfl]; rfl
  · rw [if_neg e, if_neg e]
/-- an element's list grows -/
theorem WasAt.grew {w1 w2 w3 : World} (h : WasAt w bw n As Ws) (k1 : Kp [] w w1) {i y : Nat} (hi : i < n) {ad' : Option Addr} {cap' : Nat}
    (ho : OwnS w2 3 1 ad' ((Ws.getD i []).length + 1) cap' ((Ws.getD i []).map encI ++ [I (y : Int)])) (kp2 : Kp (blkOf (As.getD i (none, 0)).1) w1 w2) (hnew : ∀ b, b ∈ blkOf ad' → b ∈ blkOf (As.getD i (none, 0)).1 ∨ w1.heap.size ≤ b)
    (hu : Upd w2 bw (.cells ⟨((List.range n).map fun i => Value.slice (As.getD i (none, 0)).1 (Ws.getD i []).length (As.getD i (none, 0)).2).set i (.slice ad' ((Ws.getD i []).length + 1) cap')⟩ 22 (0, 0)) w3) :
    WasAt w3 bw n (As.set i (ad', cap')) (Ws.set i (Ws.getD i [] ++ [y])) ∧ Kp (bw :: blkOf (As.getD i (none, 0)).1) w w3 ∧ ∀ b, b ∈ wasBlks bw n (As.set i (ad', cap')) → b ∈ wasBlks bw n As ∨ w.heap.size ≤ b := by
  have hA : ∀ j, (As.set i (ad', cap')).getD j (none, 0) = if i = j then (ad', cap') else As.getD j (none, 0) := fun j => getDset _ _ _ (by rw [h.nA]; exact hi)
  have hW : ∀ j, (Ws.set i (Ws.getD i [] ++ [y])).getD j [] = if i = j then Ws.getD i [] ++ [y] else Ws.getD j [] := fun j => getDset _ _ _ (by rw [h.nW]; exact hi)
  have hk1 := k1.size
  have nbw : ∀ j, j < n → bw ∉ blkOf (As.getD j (none, 0)).1 := fun j hj hb => by
    obtain ⟨l, hl⟩ := (h.row j hj).typed hb
    exact relRow_ne h.blk hl (by decide) rfl
  have nbw' : bw ∉ blkOf ad' := fun hb => by
    rcases hnew bw hb with h1 | h1
    · exact nbw i hi h1
    · have := h.blk.lt; omega
  have kall : Kp (bw :: blkOf (As.getD i (none, 0)).1) w w3 := ((k1.mono (S' := bw :: blkOf (As.getD i (none, 0)).1) (by simp)).after kp2 (fun b hb => .inl (List.mem_cons_of_mem _ hb))).after (hu.kp [bw] (.inl (by simp))) (fun b hb => .inl (by simp at hb; simp [hb]))
  refine ⟨⟨?_, by simpa using h.nA, by simpa using h.nW, fun j hj => ?_, fun j k hj hk hne b hb => ?_⟩, kall, fun b hb => ?_⟩
  · have := hu.blk
    have e1 : ((List.range n).map fun i => Value.slice (As.getD i (none, 0)).1 (Ws.getD i []).length (As.getD i (none, 0)).2).set i (.slice ad' ((Ws.getD i []).length + 1) cap') = (List.range n).map fun j => Value.slice ((As.set i (ad', cap')).getD j (none, 0)).1 ((Ws.set i (Ws.getD i [] ++ [y])).getD j []).length ((As.set i (ad', cap')).getD j (none, 0)).2 := by
      apply List.ext_getElem?
      intro j
      rw [List.getElem?_set, List.getElem?_map, List.getElem?_map]
      by_cases hj : j < n
      · rw [List.getElem?_range hj]
        simp only [Option.map_some, hA, hW, List.length_map, List.length_range]
        by_cases e : i = j
        · subst e; simp [hi]
        · simp [e]
      · rw [if_neg (by omega), List.getElem?_eq_none (by simpa using hj)]; rfl
    rw [e1] at this
    exact this
  · rw [hA, hW]
    by_cases e : i = j
    · subst e
      rw [if_pos rfl, if_pos rfl, List.length_append, List.map_append]
      exact ho.upd hu nbw'
    · rw [if_neg e, if_neg e]
      exact ((h.row j hj).kp k1 (by simp)).kp kp2 (fun b hb hb2 => h.sep j i hj hi (Ne.symm e) b hb hb2) |>.upd hu (nbw j hj)
  · rw [hA] at hb ⊢
    by_cases ej : i = j
    · subst ej
      rw [if_pos rfl] at hb
      rw [if_neg hne]
      intro hb2
      rcases hnew b hb with h1 | h1
      · exact h.sep i k hi hk hne b h1 hb2
      · have := (h.row k hk).lt b hb2; omega
    · rw [if_neg ej] at hb
      by_cases ek : i = k
      · subst ek
        rw [if_pos rfl]
        intro hb2
        rcases hnew b hb2 with h1 | h1
        · exact h.sep j i hj hi hne b hb h1
        · have := (h.row j hj).lt b hb; omega
      · rw [if_neg ek]; exact h.sep j k hj hk hne b hb
  · rcases mem_wasBlks.1 hb with rfl | ⟨j, hj, hb⟩
    · exact .inl (mem_wasBlks.2 (.inl rfl))
    · rw [hA] at hb
      by_cases e : i = j
      · rw [if_pos e] at hb
        rcases hnew b hb with h1 | h1
        · exact .inl (mem_wasBlks.2 (.inr ⟨i, hi, h1⟩))
        · exact .inr (by omega)
      · rw [if_neg e] at hb
        exact .inl (mem_wasBlks.2 (.inr ⟨j, hj, hb⟩))
end

/-! ### The edges that came in -/
def edgeV (es : List (Int × Int × Int)) : List Value := es.flatMap fun e => [I e.1, I e.2.1, I e.2.2]
theorem edgeV_len (es : List (Int × Int × Int)) : (edgeV es).length = 3 * es.length := by
  induction es with
  | nil => rfl
  | cons x r ih => unfold edgeV at *; rw [List.flatMap_cons, List.length_append, ih]; simp; omega
theorem edgeV_get : ∀ {es : List (Int × Int × Int)} {i : Nat} {e : Int × Int × Int}, es[i]? = some e → ∀ j v, [I e.1, I e.2.1, I e.2.2][j]? = some v → (edgeV es)[i * 3 + j]? = some v
  | [], i, e, h, _, _, _ => by simp at h
  | x :: r, 0, e, h, j, v, hv => by
    simp at h; subst h
    unfold edgeV
    rw [List.flatMap_cons, Nat.zero_mul, Nat.zero_add, List.getElem?_append_left (by have := (List.getElem?_eq_some_iff.1 hv).1; simpa using this)]
    exact hv
  | x :: r, i + 1, e, h, j, v, hv => by
    have := edgeV_get (es := r) (i := i) (e := e) (by simpa using h) j v hv
    unfold edgeV at *
    rw [List.flatMap_cons, List.getElem?_append_right (by simp; omega)]
    have e1 : (i + 1) * 3 + j - ([I x.1, I x.2.1, I x.2.2] : List Value).length = i * 3 + j := by simp; omega
    rw [e1]; exact this

/-! ### The search: which nodes are seen -/
def un (n : Nat) (l : List Nat) : Nat := ((List.range n).filter fun x => decide (x ∉ l)).length
theorem filter_one : ∀ {r : List Nat} {x : Nat} {p : Nat → Bool}, r.Nodup → x ∈ r → p x = true → (r.filter p).length = (r.filter fun y => p y && !decide (y = x)).length + 1
  | [], x, p, _, hx, _ => by cases hx
  | y :: r, x, p, hn, hx, hp => by
    rw [List.nodup_cons] at hn
    simp only [List.filter_cons]
    by_cases e : y = x
    · subst e
      rw [hp]
      have : r.filter (fun z => p z && !decide (z = y)) = r.filter p := by
        apply List.filter_congr
        intro z hz
        have : z ≠ y := fun e => hn.1 (e ▸ hz)
        simp [this]
      simp [this]
    · have hx' : x ∈ r := by
        rcases List.mem_cons.1 hx with h | h
        · exact absurd h.symm e
        · exact h
      have ih := filter_one hn.2 hx' hp
      cases hy : p y
      · simp; exact ih
      · simp [e]; exact ih
theorem un_new {n : Nat} {l : List Nat} {x : Nat} (hx : x < n) (hn : x ∉ l) : un n l = un n (l ++ [x]) + 1 := by
  unfold un
  rw [filter_one (x := x) (by exact List.nodup_range) (by simpa using hx) (by simpa using hn)]
  congr 2
  apply List.filter_congr
  intro y _
  rw [Bool.eq_iff_iff]; simp
theorem un_old {n : Nat} {l : List Nat} {x : Nat} (hn : x ∈ l) : un n (l ++ [x]) = un n l := by
  unfold un
  congr 1
  apply List.filter_congr
  intro y _
  rw [decide_eq_decide]
  constructor
  · intro h h2; exact h (List.mem_append_left _ h2)
  · intro h h2
    rcases List.mem_append.1 h2 with h2 | h2
    · exact h h2
    · simp at h2; subst h2; exact h hn
theorem un_nil (n : Nat) : un n [] = n := by
  unfold un
  rw [List.filter_eq_self.2 (by simp)]; simp
/-- what the search has done -/
structure Srch (n : Nat) (Ws : List (List Nat)) (i : Nat) (td : List Nat) (at_ : Nat) : Prop where
  le : at_ ≤ td.length
  node : ∀ x ∈ td, x < n ∧ Ch (fun a b => b ∈ Ws.getD a []) i x
  first : ∀ y ∈ Ws.getD i [], y ∈ td
  next : ∀ x ∈ td.take at_, ∀ y ∈ Ws.getD x [], y ∈ td
theorem Srch.done {n : Nat} {Ws : List (List Nat)} {i : Nat} {td : List Nat} (h : Srch n Ws i td td.length) (x : Nat) : x ∈ td ↔ Ch (fun a b => b ∈ Ws.getD a []) i x := by
  refine ⟨fun hx => (h.node x hx).2, fun hc => ?_⟩
  have hn := h.next
  rw [List.take_length] at hn
  have key : ∀ a b, Ch (fun a b => b ∈ Ws.getD a []) a b → (a = i ∨ a ∈ td) → b ∈ td := by
    intro a b hc
    induction hc with
    | one hb =>
      rintro (rfl | ha)
      · exact h.first _ hb
      · exact hn _ ha _ hb
    | more hb _ ih =>
      intro ha
      refine ih (.inr ?_)
      rcases ha with rfl | ha
      · exact h.first _ hb
      · exact hn _ ha _ hb
  exact key i x hc (.inl rfl)
end Go.Vc
