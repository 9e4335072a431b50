/- order: OrderStrict: the plain law. -/
import Derived.Test.YtkgjibhbhddckaaQClStrict40
namespace Go.Vc
open Go Go.Proofs
/-- in the order of the telling -/
def Lx (a b : P3) : Prop := a.2.2 < b.2.2 ∨ (a.2.2 = b.2.2 ∧ a.2.1 < b.2.1)
section
variable {E : List Ev} {R : List Int}
theorem racesJ_sorted (j : Nat) : ∀ i, (racesJ E R j i).Pairwise Lx
  | 0 => List.Pairwise.nil
  | i + 1 => by
    rw [racesJ_succ, List.pairwise_append]
    refine ⟨racesJ_sorted j i, ?_, ?_⟩
    · split <;> simp
    · intro a ha b hb
      obtain ⟨a', h1, _, rfl⟩ := racesJ_mem.1 ha
      split at hb
      · simp at hb; subst hb
        exact .inr ⟨rfl, h1⟩
      · simp at hb
theorem racesN_sorted : ∀ n, (racesN E R n).Pairwise Lx
  | 0 => List.Pairwise.nil
  | n + 1 => by
    rw [racesN_succ, List.pairwise_append]
    refine ⟨racesN_sorted n, racesJ_sorted n n, ?_⟩
    intro a ha b hb
    obtain ⟨j, _, hj, _, _, rfl⟩ := racesN_mem.1 ha
    obtain ⟨_, _, _, rfl⟩ := racesJ_mem.1 hb
    exact .inl hj
end
/-! ### First and Pair -/
theorem best_some {wb : P3 → Bool} : ∀ {L : List P3} {b : P3}, (b :: L).Pairwise Lx → wb b = true → ∃ y, bestGo wb (some b) L = some y ∧ y.2.2 = b.2.2 ∧ wb y = true ∧ (∀ r ∈ b :: L, wb r = true → r.2.2 = b.2.2 → r.2.1 ≤ y.2.1) ∧ y ∈ b :: L
  | [], b, _, hb => ⟨b, rfl, rfl, hb, by simp, by simp⟩
  | x :: r, b, hp, hb => by
    rw [List.pairwise_cons] at hp
    obtain ⟨h1, h2⟩ := hp
    by_cases hlt : b.2.2 < x.2.2
    · refine ⟨b, bestGo_stop wb b x r hlt, rfl, hb, ?_, by simp⟩
      intro z hz _ hzs
      rcases List.mem_cons.1 hz with rfl | hz
      · omega
      · have hx : x.2.2 ≤ z.2.2 := by
          rcases List.mem_cons.1 hz with rfl | hz
          · omega
          · have := (List.pairwise_cons.1 h2).1 z hz
            unfold Lx at this; omega
        omega
    · have hxb := h1 x (by simp)
      have hs : x.2.2 = b.2.2 ∧ b.2.1 < x.2.1 := by unfold Lx at hxb; omega
      rw [bestGo_step wb (some b) x r (by intro b' hb'; cases hb'; exact hlt)]
      by_cases hw : wb x = true
      · rw [if_pos hw]
        obtain ⟨y, e1, e2, e3, e4, e5⟩ := best_some h2 hw
        refine ⟨y, e1, by omega, e3, ?_, by simp only [List.mem_cons] at e5 ⊢; exact .inr e5⟩
        intro z hz hwz hzs
        rcases List.mem_cons.1 hz with rfl | hz
        · have := e4 x (by simp) hw rfl; omega
        · exact e4 z hz hwz (by omega)
      · rw [if_neg hw]
        have hp' : (b :: r).Pairwise Lx := List.pairwise_cons.2 ⟨fun z hz => h1 z (by simp [hz]), (List.pairwise_cons.1 h2).2⟩
        obtain ⟨y, e1, e2, e3, e4, e5⟩ := best_some hp' hb
        refine ⟨y, e1, e2, e3, ?_, by simp only [List.mem_cons] at e5 ⊢; rcases e5 with e | e; exact .inl e; exact .inr (.inr e)⟩
        intro z hz hwz hzs
        rcases List.mem_cons.1 hz with rfl | hz
        · exact e4 z (by simp) hwz hzs
        · rcases List.mem_cons.1 hz with rfl | hz
          · exact absurd hwz hw
          · exact e4 z (by simp [hz]) hwz hzs
theorem best_find {wb : P3 → Bool} : ∀ {L : List P3}, L.Pairwise Lx → (L.find? wb = none ∧ bestGo wb none L = none) ∨ ∃ x y, L.find? wb = some x ∧ bestGo wb none L = some y ∧ y.2.2 = x.2.2 ∧ wb y = true ∧ ∀ r ∈ L, wb r = true → r.2.2 = y.2.2 → r.2.1 ≤ y.2.1
  | [], _ => .inl ⟨rfl, rfl⟩
  | x :: r, hp => by
    rw [bestGo_step wb none x r (by intro b' hb'; cases hb')]
    by_cases hw : wb x = true
    · rw [if_pos hw]
      obtain ⟨y, e1, e2, e3, e4, _⟩ := best_some hp hw
      exact .inr ⟨x, y, by rw [List.find?_cons, hw], e1, e2, e3, fun z hz hwz hzs => e4 z hz hwz (by omega)⟩
    · rw [if_neg hw]
      have hw' : wb x = false := by simpa using hw
      rcases best_find (wb := wb) (List.pairwise_cons.1 hp).2 with ⟨e1, e2⟩ | ⟨x', y, e1, e2, e3, e4, e5⟩
      · exact .inl ⟨by rw [List.find?_cons, hw']; exact e1, e2⟩
      · refine .inr ⟨x', y, by rw [List.find?_cons, hw']; exact e1, e2, e3, e4, ?_⟩
        intro z hz hwz hzs
        rcases List.mem_cons.1 hz with rfl | hz
        · exact absurd hwz hw
        · exact e5 z hz hwz hzs
/-! ### Flags -/
theorem flgGo_iff {n : Int} : ∀ {L : List P3} {acc : List F2}, (∀ x ∈ L, (x.2.2 : Int) < n) → ∀ z : F2, z ∈ flgGo n acc L ↔ z ∈ acc ∨ ((∀ y ∈ acc, y.1 ≠ z.1) ∧ ∃ x, L.find? (fun x => decide (x.1 = z.1)) = some x ∧ z.2 = (x.2.2 : Int))
  | [], acc, _, z => by simp [flgGo]
  | x :: r, acc, h, z => by
    have h' : ¬ n ≤ (x.2.2 : Int) := by have := h x (by simp); omega
    rw [flgGo_step n acc x r h', flgGo_iff (fun y hy => h y (by simp [hy]))]
    rw [List.find?_cons]
    by_cases hx : x.1 = z.1
    · rw [decide_eq_true hx]
      cases ha : acc.any (fun y => decide (y.1 = x.1)) with
      | true =>
        rw [if_pos rfl]
        obtain ⟨y, hy, hyx⟩ := List.any_eq_true.1 ha
        have hyx : y.1 = x.1 := of_decide_eq_true hyx
        constructor
        · rintro (h1 | ⟨h1, _⟩)
          · exact .inl h1
          · exact absurd (hyx.trans hx) (h1 y hy)
        · rintro (h1 | ⟨h1, _⟩)
          · exact .inl h1
          · exact absurd (hyx.trans hx) (h1 y hy)
      | false =>
        rw [if_neg (by simp)]
        have hno := any_false ha
        constructor
        · rintro (h1 | ⟨h1, _⟩)
          · rcases List.mem_append.1 h1 with h1 | h1
            · exact .inl h1
            · simp at h1; subst h1
              exact .inr ⟨fun y hy => hno y hy, x, rfl, rfl⟩
          · exact absurd hx (h1 (x.1, (x.2.2 : Int)) (by simp))
        · rintro (h1 | ⟨h1, x', e1, e2⟩)
          · exact .inl (by simp [h1])
          · cases e1
            refine .inl (List.mem_append.2 (.inr ?_))
            obtain ⟨z1, z2⟩ := z
            simp at hx e2 ⊢
            exact ⟨hx.symm, e2⟩
    · rw [decide_eq_false hx]
      cases ha : acc.any (fun y => decide (y.1 = x.1)) with
      | true => rw [if_pos rfl]
      | false =>
        rw [if_neg (by simp)]
        constructor
        · rintro (h1 | ⟨h1, h2⟩)
          · rcases List.mem_append.1 h1 with h1 | h1
            · exact .inl h1
            · simp at h1; subst h1
              exact absurd rfl hx
          · exact .inr ⟨fun y hy => h1 y (by simp [hy]), h2⟩
        · rintro (h1 | ⟨h1, h2⟩)
          · exact .inl (by simp [h1])
          · refine .inr ⟨fun y hy => ?_, h2⟩
            rcases List.mem_append.1 hy with hy | hy
            · exact h1 y hy
            · simp at hy; subst hy; exact hx
section
variable {E : List Ev} {R : List Int}
theorem flagsV_iff {n : Nat} (hn : n = E.length) (z : F2) : z ∈ flagsV E R n ↔ ∃ x, (racesN E R E.length).find? (fun x => decide (x.1 = z.1)) = some x ∧ z.2 = (x.2.2 : Int) := by
  unfold flagsV
  rw [← (flgGo_perm n (racesN E R E.length) [] [] (.refl _)).mem_iff, flgGo_iff]
  · simp
  · intro x hx
    obtain ⟨j, a, hj, _, _, rfl⟩ := racesN_mem.1 hx
    dsimp only; omega
theorem flagsV_sorted (n : Int) : (flagsV E R n).Pairwise (fun a b => a.1 < b.1) := refGo_sorted n _ [] .nil
/-- a race's variable is flagged, not behind it -/
theorem race_flagged {n : Nat} (hn : n = E.length) {r : P3} (hr : r ∈ racesN E R E.length) : ∃ z ∈ flagsV E R n, z.1 = r.1 ∧ z.2 ≤ (r.2.2 : Int) := by
  have hs := racesN_sorted (E := E) (R := R) E.length
  generalize hL : racesN E R E.length = L at hr hs
  cases hf : L.find? (fun x => decide (x.1 = r.1)) with
  | none =>
    have := List.find?_eq_none.1 hf r hr
    simp at this
  | some x =>
    refine ⟨(r.1, (x.2.2 : Int)), (flagsV_iff hn _).2 ⟨x, by rw [hL]; exact hf, rfl⟩, rfl, ?_⟩
    obtain ⟨hx, pre, post, rfl, has⟩ := List.find?_eq_some_iff_append.1 hf
    rw [List.pairwise_append] at hs
    rcases List.mem_append.1 hr with hr | hr
    · have := has r hr; simp at this
    · rcases List.mem_cons.1 hr with rfl | hr
      · exact Int.le_refl _
      · have := (List.pairwise_cons.1 hs.2.1).1 r hr
        unfold Lx at this
        dsimp only; omega
/-- a flag's variable has its first race there -/
theorem flag_pair {n : Nat} (hn : n = E.length) {z : F2} (hz : z ∈ flagsV E R n) : ∃ y, pairV E R z.1 = some y ∧ y.1 = z.1 ∧ (y.2.2 : Int) = z.2 := by
  obtain ⟨x, h1, h2⟩ := (flagsV_iff hn z).1 hz
  rcases best_find (wb := fun x => decide (x.1 = z.1)) (racesN_sorted (E := E) (R := R) E.length) with ⟨e1, _⟩ | ⟨x', y, e1, e2, e3, e4, _⟩
  · rw [h1] at e1; cases e1
  · rw [h1] at e1; cases e1
    exact ⟨y, e2, of_decide_eq_true e4, by rw [h2, e3]⟩
theorem first_some {r : P3} {rest : List P3} (h : racesN E R E.length = r :: rest) : ∃ y, firstV E R = some y ∧ y.2.2 = r.2.2 ∧ ∀ x ∈ r :: rest, x.2.2 = r.2.2 → x.2.1 ≤ y.2.1 := by
  have hs := racesN_sorted (E := E) (R := R) E.length
  unfold firstV
  rw [h] at hs ⊢
  obtain ⟨y, e1, e2, _, e4, _⟩ := best_some (wb := fun _ => true) hs rfl
  exact ⟨y, by rw [bestGo_step _ none r rest (by intro b hb; cases hb)]; exact e1, e2, fun x hx hxs => e4 x hx rfl hxs⟩
theorem first_none (h : racesN E R E.length = []) : firstV E R = none := by unfold firstV; rw [h]; rfl
/-- Before is a link, or a link and then one of it -/
theorem bef_link {i j : Nat} : befI E R i j = true ↔ lk E R i j ∨ ∃ k, i < k ∧ k < j ∧ lk E R i k ∧ befI E R k j = true := by
  rw [befI_nat]
  constructor
  · intro h
    cases h with
    | one h => exact .inl h
    | more h g => exact .inr ⟨_, (lk_lt h).1, (ch_lt g).1, h, befI_nat.2 g⟩
  · rintro (h | ⟨k, _, _, h, g⟩)
    · exact .one h
    · exact .more h (befI_nat.1 g)
end
end Go.Vc
/- order: Flags, over the sort. -/
namespace Go.Vc
open Go Go.Proofs
set_option maxRecDepth 10000
variable {w : World}
/-- what is asked of the sort -/
def SortF : Prop := ∀ (w : World) (ad : Option Addr) (cap : Nat) (l : List F2), OwnS w 68 2 ad l.length cap (flgsC l) → (∀ x ∈ l, 0 ≤ x.1 ∧ x.1 ≤ 1048576) → l.length ≤ 4194304 →
  Ret Try.prog 67 [.slice ad l.length cap, .func (.func 68) #[] #[]] w (fun v w' => v = .tuple #[] ∧ ∃ l', l.Perm l' ∧ l'.Pairwise (fun a b => a.1 ≤ b.1) ∧ OwnS w' 68 2 ad l.length cap (flgsC l') ∧ Kp (blkOf ad) w w')
section
variable {p : Option Addr} {F : List Nat} {E : List Ev} {R : List Int}
set_option maxHeartbeats 6400000 in
theorem xFlags_ret (hS : SortF) (h : OX w p F E R) (hv : ∀ x ∈ racesN E R E.length, 0 ≤ x.1 ∧ x.1 ≤ 1048576) (n : Int) : Ret Try.prog 20 [.pointer p, I n] w (fun r w' => ∃ ad cap, r = .slice ad (flagsV E R n).length cap ∧ OwnS w' 68 2 ad (flagsV E R n).length cap (flgsC (flagsV E R n)) ∧ Kp [] w w' ∧ ∀ b, b ∈ blkOf ad → w.heap.size ≤ b) := by
  have hw := h.lt
  have hsm := racesN_small R h.small
  refine enterMC Try.call20 Try.func20 rfl rfl rfl rfl ?_
  refine m_seq (m_of ?_)
  (repeat first|refine zA ?_|refine zB ?_|refine zC ?_|refine zD ?_|refine zE ?_|refine zg ?_|refine zo rfl rfl (by first|exact trivial|(simp only[AllP];omega)|(simp(discharger:=omega)only[AllP,cA,cB];omega)|(simp only[AllP,cC,cD,cE,cF,cG];omega)) ?_|refine zn ?_|refine zb ?_|refine ze rfl ?_|refine zr ?_|refine zk ?_|refine zT rfl rfl rfl ?_|refine zU rfl rfl rfl ?_|refine zV rfl rfl rfl ?_|refine zf rfl ?_|refine zt rfl ?_)
  refine o_box rfl rfl rfl ?_
  intro b3 w1 hb3 hu1
  (repeat first|refine zA ?_|refine zB ?_|refine zC ?_|refine zD ?_|refine zE ?_|refine zg ?_|refine zo rfl rfl (by first|exact trivial|(simp only[AllP];omega)|(simp(discharger:=omega)only[AllP,cA,cB];omega)|(simp only[AllP,cC,cD,cE,cF,cG];omega)) ?_|refine zn ?_|refine zb ?_|refine ze rfl ?_|refine zr ?_|refine zk ?_|refine zT rfl rfl rfl ?_|refine zU rfl rfl rfl ?_|refine zV rfl rfl rfl ?_|refine zf rfl ?_|refine zt rfl ?_)
  refine m_seq (m_of ?_)
  (repeat first|refine zA ?_|refine zB ?_|refine zC ?_|refine zD ?_|refine zE ?_|refine zg ?_|refine zo rfl rfl (by first|exact trivial|(simp only[AllP];omega)|(simp(discharger:=omega)only[AllP,cA,cB];omega)|(simp only[AllP,cC,cD,cE,cF,cG];omega)) ?_|refine zn ?_|refine zb ?_|refine ze rfl ?_|refine zr ?_|refine zk ?_|refine zT rfl rfl rfl ?_|refine zU rfl rfl rfl ?_|refine zV rfl rfl rfl ?_|refine zf rfl ?_|refine zt rfl ?_)
  refine o_alloc rfl rfl rfl rfl ?_
  intro b5 w2 hb5 hu2
  have z1 := hu1.lt
  have z2 := hu2.lt
  have k1 := hu1.kp [] (.inr (by omega))
  have k2 := hu2.kp [] (.inr (by omega))
  have s1 := k1.size
  have s2 := k2.size
  have hV2 : Blk w2 b3 [I n] 3 := k2.blk (by simp) hu1.blk
  have k02 := k1.trans k2
  (repeat first|refine zA ?_|refine zB ?_|refine zC ?_|refine zD ?_|refine zE ?_|refine zg ?_|refine zo rfl rfl (by first|exact trivial|(simp only[AllP];omega)|(simp(discharger:=omega)only[AllP,cA,cB];omega)|(simp only[AllP,cC,cD,cE,cF,cG];omega)) ?_|refine zn ?_|refine zb ?_|refine ze rfl ?_|refine zr ?_|refine zk ?_|refine zT rfl rfl rfl ?_|refine zU rfl rfl rfl ?_|refine zV rfl rfl rfl ?_|refine zf rfl ?_|refine zt rfl ?_)
  refine m_seq (m_seq (m_of ?_))
  (repeat first|refine zA ?_|refine zB ?_|refine zC ?_|refine zD ?_|refine zE ?_|refine zg ?_|refine zo rfl rfl (by first|exact trivial|(simp only[AllP];omega)|(simp(discharger:=omega)only[AllP,cA,cB];omega)|(simp only[AllP,cC,cD,cE,cF,cG];omega)) ?_|refine zn ?_|refine zb ?_|refine ze rfl ?_|refine zr ?_|refine zk ?_|refine zT rfl rfl rfl ?_|refine zU rfl rfl rfl ?_|refine zV rfl rfl rfl ?_|refine zf rfl ?_|refine zt rfl ?_)
  refine o_call (xAll_ret (h.kp0 k02)) rfl rfl rfl ?_
  rintro q w6 ⟨bx, hseq, k6, hbx⟩
  obtain ⟨fi, lb, rfl, hI⟩ := hseq.is
  have s6 := k6.size
  have g6 : AccI w w6 (w6.heap.size + 2) b5 42 68 2 0 (flgsC []) := ⟨⟨none, 0, k6.blk (by simp) hu2.blk, ownS_nil _ _ _, by simp [blkOf]⟩, by omega, by omega, k02.trans k6⟩
  have hV6 := k6.blk (by simp) hV2
  have hn5 : b5 ∉ bx :: F := fun hm => by
    rcases List.mem_cons.1 hm with q | hm
    · omega
    · have := hw b5 hm; omega
  (repeat first|refine zA ?_|refine zB ?_|refine zC ?_|refine zD ?_|refine zE ?_|refine zg ?_|refine zo rfl rfl (by first|exact trivial|(simp only[AllP];omega)|(simp(discharger:=omega)only[AllP,cA,cB];omega)|(simp only[AllP,cC,cD,cE,cF,cG];omega)) ?_|refine zn ?_|refine zb ?_|refine ze rfl ?_|refine zr ?_|refine zk ?_|refine zT rfl rfl rfl ?_|refine zU rfl rfl rfl ?_|refine zV rfl rfl rfl ?_|refine zf rfl ?_|refine zt rfl ?_)
  refine m_block ?_
  refine m_range2 hI [0] (fun pre W => ∃ acc : List F2, acc.length ≤ pre.length ∧ AccI w W (w6.heap.size + 2) b5 42 68 2 acc.length (flgsC acc) ∧ Blk W b3 [I n] 3 ∧ ∀ post, flgGo n [] (pre ++ post) = flgGo n acc post)
    (fun c pre W => c = .exit 0 ∧ ∃ acc : List F2, AccI w W (w6.heap.size + 2) b5 42 68 2 acc.length (flgsC acc) ∧ ∀ post, flgGo n [] (pre ++ post) = acc) rfl rfl (fun _ => rfl) ?_ ?_ ?_ ?_ ?_ ?_
  · rintro pre W1 W2 ⟨acc, hl, hg, hv, hq⟩ hnc
    exact ⟨acc, hl, hg.nc hnc (by omega), hnc.blk hv, hq⟩
  · rintro c pre W1 W2 ⟨hc, acc, hg, hq⟩ hnc
    exact ⟨hc, acc, hg.nc hnc (by omega), hq⟩
  · exact ⟨[], by simp, g6, hV6, fun post => rfl⟩
  · rintro D l r pre x post W hx' hD hl ⟨acc, hal, hg, hv, hq⟩
    (repeat first|refine zA ?_|refine zB ?_|refine zC ?_|refine zD ?_|refine zE ?_|refine zg ?_|refine zo rfl rfl (by first|exact trivial|(simp only[AllP];omega)|(simp(discharger:=omega)only[AllP,cA,cB];omega)|(simp only[AllP,cC,cD,cE,cF,cG];omega)) ?_|refine zn ?_|refine zb ?_|refine ze rfl ?_|refine zr ?_|refine zk ?_|refine zT rfl rfl rfl ?_|refine zU rfl rfl rfl ?_|refine zV rfl rfl rfl ?_|refine zf rfl ?_|refine zt rfl ?_)
    refine o_alloc rfl rfl rfl rfl ?_
    intro b8 W1 hb8 hu8
    refine o_storeA (cs := pairC x) rfl hu8.blk (Nat.le_refl _) rfl (by simp [Value.oneCell']) rfl rfl rfl rfl ?_
    intro W1' hu8'
    have k8 : Kp [] W W1' := (hu8.kp [] (.inr (by omega))).since (hu8'.kp [b8] (.inl (by simp))) (by simp; omega)
    have hB8' : Blk W1' b8 (pairC x) 53 := hu8'.blk
    (repeat first|refine zA ?_|refine zB ?_|refine zC ?_|refine zD ?_|refine zE ?_|refine zg ?_|refine zo rfl rfl (by first|exact trivial|(simp only[AllP];omega)|(simp(discharger:=omega)only[AllP,cA,cB];omega)|(simp only[AllP,cC,cD,cE,cF,cG];omega)) ?_|refine zn ?_|refine zb ?_|refine ze rfl ?_|refine zr ?_|refine zk ?_|refine zT rfl rfl rfl ?_|refine zU rfl rfl rfl ?_|refine zV rfl rfl rfl ?_|refine zf rfl ?_|refine zt rfl ?_)
    refine ⟨k8, ?_⟩
    intro W2 hnc hkeep
    have hB8 := hnc.blk hB8'
    have hg2 := (hg.kp0 k8).nc hnc (show w.heap.size ≤ w6.heap.size by omega)
    have hv2 := hnc.blk (k8.blk (by simp) hv)
    have hlW : l < W2.heap.size := (Array.getElem?_eq_some_iff.1 hkeep.loop).1
    have hle : acc.length ≤ 4194304 := by
      have h2 : pre.length ≤ (racesN E R E.length).length := by rw [hx']; simp
      omega
    have hx2 : ∀ post, flgGo n [] (pre ++ [x] ++ post) = flgGo n acc (x :: post) := fun post => by rw [List.append_assoc]; exact hq _
    obtain ⟨ad, cap, hB5, ho5, hn5'⟩ := hg2.hdr
    (repeat first|refine zA ?_|refine zB ?_|refine zC ?_|refine zD ?_|refine zE ?_|refine zg ?_|refine zo rfl rfl (by first|exact trivial|(simp only[AllP];omega)|(simp(discharger:=omega)only[AllP,cA,cB];omega)|(simp only[AllP,cC,cD,cE,cF,cG];omega)) ?_|refine zn ?_|refine zb ?_|refine ze rfl ?_|refine zr ?_|refine zk ?_|refine zT rfl rfl rfl ?_|refine zU rfl rfl rfl ?_|refine zV rfl rfl rfl ?_|refine zf rfl ?_|refine zt rfl ?_)
    refine o_load (v := I (x.2.2 : Int)) rfl hB8 rfl rfl rfl rfl rfl ?_
    (repeat first|refine zA ?_|refine zB ?_|refine zC ?_|refine zD ?_|refine zE ?_|refine zg ?_|refine zo rfl rfl (by first|exact trivial|(simp only[AllP];omega)|(simp(discharger:=omega)only[AllP,cA,cB];omega)|(simp only[AllP,cC,cD,cE,cF,cG];omega)) ?_|refine zn ?_|refine zb ?_|refine ze rfl ?_|refine zr ?_|refine zk ?_|refine zT rfl rfl rfl ?_|refine zU rfl rfl rfl ?_|refine zV rfl rfl rfl ?_|refine zf rfl ?_|refine zt rfl ?_)
    refine o_load rfl hv2 rfl rfl rfl rfl rfl ?_
    (repeat first|refine zA ?_|refine zB ?_|refine zC ?_|refine zD ?_|refine zE ?_|refine zg ?_|refine zo rfl rfl (by first|exact trivial|(simp only[AllP];omega)|(simp(discharger:=omega)only[AllP,cA,cB];omega)|(simp only[AllP,cC,cD,cE,cF,cG];omega)) ?_|refine zn ?_|refine zb ?_|refine ze rfl ?_|refine zr ?_|refine zk ?_|refine zT rfl rfl rfl ?_|refine zU rfl rfl rfl ?_|refine zV rfl rfl rfl ?_|refine zf rfl ?_|refine zt rfl ?_)
    refine r_if (p := n ≤ (x.2.2 : Int)) rfl (fun hc => ?_) (fun hc => ?_)
    · (repeat first|refine zA ?_|refine zB ?_|refine zC ?_|refine zD ?_|refine zE ?_|refine zg ?_|refine zo rfl rfl (by first|exact trivial|(simp only[AllP];omega)|(simp(discharger:=omega)only[AllP,cA,cB];omega)|(simp only[AllP,cC,cD,cE,cF,cG];omega)) ?_|refine zn ?_|refine zb ?_|refine ze rfl ?_|refine zr ?_|refine zk ?_|refine zT rfl rfl rfl ?_|refine zU rfl rfl rfl ?_|refine zV rfl rfl rfl ?_|refine zf rfl ?_|refine zt rfl ?_)
      exact ⟨⟨rfl, acc, hg2, fun post => (hx2 post).trans (flgGo_stop n acc x post hc)⟩, hkeep⟩
    have hgo := fun post => (hx2 post).trans (flgGo_step n acc x post hc)
    (repeat first|refine zA ?_|refine zB ?_|refine zC ?_|refine zD ?_|refine zE ?_|refine zg ?_|refine zo rfl rfl (by first|exact trivial|(simp only[AllP];omega)|(simp(discharger:=omega)only[AllP,cA,cB];omega)|(simp only[AllP,cC,cD,cE,cF,cG];omega)) ?_|refine zn ?_|refine zb ?_|refine ze rfl ?_|refine zr ?_|refine zk ?_|refine zT rfl rfl rfl ?_|refine zU rfl rfl rfl ?_|refine zV rfl rfl rfl ?_|refine zf rfl ?_|refine zt rfl ?_)
    refine o_load rfl hB5 rfl rfl rfl rfl rfl ?_
    (repeat first|refine zA ?_|refine zB ?_|refine zC ?_|refine zD ?_|refine zE ?_|refine zg ?_|refine zo rfl rfl (by first|exact trivial|(simp only[AllP];omega)|(simp(discharger:=omega)only[AllP,cA,cB];omega)|(simp only[AllP,cC,cD,cE,cF,cG];omega)) ?_|refine zn ?_|refine zb ?_|refine ze rfl ?_|refine zr ?_|refine zk ?_|refine zT rfl rfl rfl ?_|refine zU rfl rfl rfl ?_|refine zV rfl rfl rfl ?_|refine zf rfl ?_|refine zt rfl ?_)
    refine o_call (ContainsFlag_ret hB8 ho5.readN (by omega)) rfl rfl rfl ?_
    rintro v W3 ⟨rfl, k3⟩
    have hB53 := k3.blk (by simp) hB5
    have ho53 := ho5.kp k3 (by simp)
    have hB83 := k3.blk (by simp) hB8
    have hv3 := k3.blk (by simp) hv2
    have hg3 := hg2.kp0 k3
    have hkF : ∀ b, b ∈ bx :: F → b < W2.heap.size := fun b hb => by have := hI.1 b hb; omega
    have hkeep3 : Keeps D l r (bx :: F) w6 W3 := hkeep.kp hkF k3 (by simp) (by simp) (by simp)
    have s3 := k3.size
    (repeat first|refine zA ?_|refine zB ?_|refine zC ?_|refine zD ?_|refine zE ?_|refine zg ?_|refine zo rfl rfl (by first|exact trivial|(simp only[AllP];omega)|(simp(discharger:=omega)only[AllP,cA,cB];omega)|(simp only[AllP,cC,cD,cE,cF,cG];omega)) ?_|refine zn ?_|refine zb ?_|refine ze rfl ?_|refine zr ?_|refine zk ?_|refine zT rfl rfl rfl ?_|refine zU rfl rfl rfl ?_|refine zV rfl rfl rfl ?_|refine zf rfl ?_|refine zt rfl ?_)
    cases ha : acc.any (fun y => decide (y.1 = x.1)) with
    | true =>
      refine r_no rfl rfl ?_
      (repeat first|refine zA ?_|refine zB ?_|refine zC ?_|refine zD ?_|refine zE ?_|refine zg ?_|refine zo rfl rfl (by first|exact trivial|(simp only[AllP];omega)|(simp(discharger:=omega)only[AllP,cA,cB];omega)|(simp only[AllP,cC,cD,cE,cF,cG];omega)) ?_|refine zn ?_|refine zb ?_|refine ze rfl ?_|refine zr ?_|refine zk ?_|refine zT rfl rfl rfl ?_|refine zU rfl rfl rfl ?_|refine zV rfl rfl rfl ?_|refine zf rfl ?_|refine zt rfl ?_)
      refine ⟨⟨acc, by simp; omega, hg3, hv3, fun post => ?_⟩, hkeep3⟩
      rw [hgo, ha, if_pos rfl]
    | false =>
      refine r_yes rfl rfl ?_
      (repeat first|refine zA ?_|refine zB ?_|refine zC ?_|refine zD ?_|refine zE ?_|refine zg ?_|refine zo rfl rfl (by first|exact trivial|(simp only[AllP];omega)|(simp(discharger:=omega)only[AllP,cA,cB];omega)|(simp only[AllP,cC,cD,cE,cF,cG];omega)) ?_|refine zn ?_|refine zb ?_|refine ze rfl ?_|refine zr ?_|refine zk ?_|refine zT rfl rfl rfl ?_|refine zU rfl rfl rfl ?_|refine zV rfl rfl rfl ?_|refine zf rfl ?_|refine zt rfl ?_)
      refine o_load rfl hB53 rfl rfl rfl rfl rfl ?_
      (repeat first|refine zA ?_|refine zB ?_|refine zC ?_|refine zD ?_|refine zE ?_|refine zg ?_|refine zo rfl rfl (by first|exact trivial|(simp only[AllP];omega)|(simp(discharger:=omega)only[AllP,cA,cB];omega)|(simp only[AllP,cC,cD,cE,cF,cG];omega)) ?_|refine zn ?_|refine zb ?_|refine ze rfl ?_|refine zr ?_|refine zk ?_|refine zT rfl rfl rfl ?_|refine zU rfl rfl rfl ?_|refine zV rfl rfl rfl ?_|refine zf rfl ?_|refine zt rfl ?_)
      refine o_load (v := I x.1) rfl hB83 rfl rfl rfl rfl rfl ?_
      (repeat first|refine zA ?_|refine zB ?_|refine zC ?_|refine zD ?_|refine zE ?_|refine zg ?_|refine zo rfl rfl (by first|exact trivial|(simp only[AllP];omega)|(simp(discharger:=omega)only[AllP,cA,cB];omega)|(simp only[AllP,cC,cD,cE,cF,cG];omega)) ?_|refine zn ?_|refine zb ?_|refine ze rfl ?_|refine zr ?_|refine zk ?_|refine zT rfl rfl rfl ?_|refine zU rfl rfl rfl ?_|refine zV rfl rfl rfl ?_|refine zf rfl ?_|refine zt rfl ?_)
      refine o_load (v := I (x.2.2 : Int)) rfl hB83 rfl rfl rfl rfl rfl ?_
      (repeat first|refine zA ?_|refine zB ?_|refine zC ?_|refine zD ?_|refine zE ?_|refine zg ?_|refine zo rfl rfl (by first|exact trivial|(simp only[AllP];omega)|(simp(discharger:=omega)only[AllP,cA,cB];omega)|(simp only[AllP,cC,cD,cE,cF,cG];omega)) ?_|refine zn ?_|refine zb ?_|refine ze rfl ?_|refine zr ?_|refine zk ?_|refine zT rfl rfl rfl ?_|refine zU rfl rfl rfl ?_|refine zV rfl rfl rfl ?_|refine zf rfl ?_|refine zt rfl ?_)
      refine o_build (flgC (x.1, (x.2.2 : Int))) rfl rfl rfl rfl rfl rfl rfl ?_
      refine o_buildSliceN (flgC (x.1, (x.2.2 : Int))) rfl rfl rfl (by kernel_rfl) rfl rfl rfl rfl ?_
      intro b9 W4 hb9 hu9
      have k9 : Kp [] W3 W4 := hu9.kp [] (.inr (by omega))
      refine o_append (flgC (x.1, (x.2.2 : Int))) rfl rfl (ho53.kp k9 (by simp)) (fun j v hv => by rw [addr_lit, Nat.zero_add]; exact hu9.blk.cell hv) rfl rfl rfl (by omega) rfl (by omega) (by simp [Value.oneCell']) (by simp only [maxLen]; omega) (by omega) rfl rfl ?_
      intro ad' cap' W5 ho4 k4 hn4
      have hB5' : Blk W5 b5 [.slice ad acc.length cap] 42 := k4.blk (fun hb => by have := hn5' _ hb; have := hg2.lt; omega) (k9.blk (by simp) hB53)
      (repeat first|refine zA ?_|refine zB ?_|refine zC ?_|refine zD ?_|refine zE ?_|refine zg ?_|refine zo rfl rfl (by first|exact trivial|(simp only[AllP];omega)|(simp(discharger:=omega)only[AllP,cA,cB];omega)|(simp only[AllP,cC,cD,cE,cF,cG];omega)) ?_|refine zn ?_|refine zb ?_|refine ze rfl ?_|refine zr ?_|refine zk ?_|refine zT rfl rfl rfl ?_|refine zU rfl rfl rfl ?_|refine zV rfl rfl rfl ?_|refine zf rfl ?_|refine zt rfl ?_)
      refine o_store rfl hB5' (by simp) rfl rfl rfl rfl rfl rfl ?_
      intro W6 hu5
      have hv4 := k4.blk (fun hb => by have := hn5' _ hb; have := hg2.lt; have := hg2.fresh; omega) (k9.blk (by simp) hv3)
      obtain ⟨hg5, k5⟩ := hg3.push hB53 (by omega) k9 ho4 k4 hn4 hu5
      (repeat first|refine zA ?_|refine zB ?_|refine zC ?_|refine zD ?_|refine zE ?_|refine zg ?_|refine zo rfl rfl (by first|exact trivial|(simp only[AllP];omega)|(simp(discharger:=omega)only[AllP,cA,cB];omega)|(simp only[AllP,cC,cD,cE,cF,cG];omega)) ?_|refine zn ?_|refine zb ?_|refine ze rfl ?_|refine zr ?_|refine zk ?_|refine zT rfl rfl rfl ?_|refine zU rfl rfl rfl ?_|refine zV rfl rfl rfl ?_|refine zf rfl ?_|refine zt rfl ?_)
      refine ⟨⟨acc ++ [(x.1, (x.2.2 : Int))], by simp; omega, by rw [List.length_append, flgsC_snoc]; exact hg5, hu5.kept (by omega) hv4, fun post => ?_⟩, ?_⟩
      · rw [hgo, ha]; rfl
      exact hkeep3.kp (fun b hb => by have := hI.1 b hb; omega) k5 (fun hm => by
        rcases List.mem_cons.1 hm with q | q
        · have := hg2.lt; omega
        · have := hn5' _ q; omega) (fun hm => by
        rcases List.mem_cons.1 hm with q | q
        · have := hg2.lt; omega
        · have := hn5' _ q; omega) (fun b hb hm => by
        rcases List.mem_cons.1 hm with q | q
        · subst q; exact hn5 hb
        · have := hn5' _ q; have := hI.1 b hb; omega)
  · rintro D W hD ⟨acc, hal, hg, hv', hq⟩ hsh
    have e1 : flgGo n [] (racesN E R E.length) = acc := by have := hq []; rwa [List.append_nil] at this
    obtain ⟨ad, cap, hB5, ho5, hn5'⟩ := hg.hdr
    refine m_seq (m_of ?_)
    (repeat first|refine zA ?_|refine zB ?_|refine zC ?_|refine zD ?_|refine zE ?_|refine zg ?_|refine zo rfl rfl (by first|exact trivial|(simp only[AllP];omega)|(simp(discharger:=omega)only[AllP,cA,cB];omega)|(simp only[AllP,cC,cD,cE,cF,cG];omega)) ?_|refine zn ?_|refine zb ?_|refine ze rfl ?_|refine zr ?_|refine zk ?_|refine zT rfl rfl rfl ?_|refine zU rfl rfl rfl ?_|refine zV rfl rfl rfl ?_|refine zf rfl ?_|refine zt rfl ?_)
    refine o_load rfl hB5 rfl rfl rfl rfl rfl ?_
    (repeat first|refine zA ?_|refine zB ?_|refine zC ?_|refine zD ?_|refine zE ?_|refine zg ?_|refine zo rfl rfl (by first|exact trivial|(simp only[AllP];omega)|(simp(discharger:=omega)only[AllP,cA,cB];omega)|(simp only[AllP,cC,cD,cE,cF,cG];omega)) ?_|refine zn ?_|refine zb ?_|refine ze rfl ?_|refine zr ?_|refine zk ?_|refine zT rfl rfl rfl ?_|refine zU rfl rfl rfl ?_|refine zV rfl rfl rfl ?_|refine zf rfl ?_|refine zt rfl ?_)
    refine o_call (hS W ad cap acc ho5 (fun z hz => ?_) (by omega)) rfl rfl rfl ?_
    · rw [← e1] at hz
      rcases flgGo_mem n _ _ z hz with h | ⟨y, hy, rfl⟩
      · simp at h
      · exact hv y hy
    rintro v W2 ⟨rfl, l', hp, hs, hO, kS⟩
    have e2 : l' = flagsV E R n := flags_sorted (by rw [e1]; exact hp) hs
    subst e2
    have hB5' := kS.blk (fun hb => by have := hn5' _ hb; have := hg.lt; omega) hB5
    have kw : Kp [] w W2 := hg.kp.since kS (fun b hb => by have := hn5' b hb; omega)
    have hsh2 : W2.heap[D]? = some (.deferred (some [])) := (kS.at_ D (Array.getElem?_eq_some_iff.1 hsh).1 (fun hb => by have := hn5' _ hb; omega)).trans hsh
    have hln := hp.length_eq
    rw [hln] at hO hB5'
    (repeat first|refine zA ?_|refine zB ?_|refine zC ?_|refine zD ?_|refine zE ?_|refine zg ?_|refine zo rfl rfl (by first|exact trivial|(simp only[AllP];omega)|(simp(discharger:=omega)only[AllP,cA,cB];omega)|(simp only[AllP,cC,cD,cE,cF,cG];omega)) ?_|refine zn ?_|refine zb ?_|refine ze rfl ?_|refine zr ?_|refine zk ?_|refine zT rfl rfl rfl ?_|refine zU rfl rfl rfl ?_|refine zV rfl rfl rfl ?_|refine zf rfl ?_|refine zt rfl ?_)
    refine m_seq (m_of ?_)
    (repeat first|refine zA ?_|refine zB ?_|refine zC ?_|refine zD ?_|refine zE ?_|refine zg ?_|refine zo rfl rfl (by first|exact trivial|(simp only[AllP];omega)|(simp(discharger:=omega)only[AllP,cA,cB];omega)|(simp only[AllP,cC,cD,cE,cF,cG];omega)) ?_|refine zn ?_|refine zb ?_|refine ze rfl ?_|refine zr ?_|refine zk ?_|refine zT rfl rfl rfl ?_|refine zU rfl rfl rfl ?_|refine zV rfl rfl rfl ?_|refine zf rfl ?_|refine zt rfl ?_)
    refine o_load rfl hB5' rfl rfl rfl rfl rfl ?_
    (repeat first|refine zA ?_|refine zB ?_|refine zC ?_|refine zD ?_|refine zE ?_|refine zg ?_|refine zo rfl rfl (by first|exact trivial|(simp only[AllP];omega)|(simp(discharger:=omega)only[AllP,cA,cB];omega)|(simp only[AllP,cC,cD,cE,cF,cG];omega)) ?_|refine zn ?_|refine zb ?_|refine ze rfl ?_|refine zr ?_|refine zk ?_|refine zT rfl rfl rfl ?_|refine zU rfl rfl rfl ?_|refine zV rfl rfl rfl ?_|refine zf rfl ?_|refine zt rfl ?_)
    refine m_ret ⟨hsh2, fun w8 hu8 => ?_⟩
    have kw8 : Kp [] w w8 := kw.since (hu8.kp [D] (.inl (by simp))) (by simp; omega)
    exact ⟨[.slice ad _ cap], ⟨⟨_, rfl⟩, trivial⟩, ad, cap, rfl, hO.upd hu8 (fun hm => by have := hn5' _ hm; omega), kw8, fun b hb => by have := hn5' b hb; omega⟩
  · rintro D c pre post W hD hc hx' ⟨rfl, acc, hg, hq⟩ hsh
    have e1 : flgGo n [] (racesN E R E.length) = acc := by rw [hx']; exact hq post
    have hal : acc.length ≤ 4194304 := by
      have := flgGo_le n (racesN E R E.length) []
      rw [e1] at this; simp at this; omega
    refine m_exit rfl ?_
    obtain ⟨ad, cap, hB5, ho5, hn5'⟩ := hg.hdr
    refine m_seq (m_of ?_)
    (repeat first|refine zA ?_|refine zB ?_|refine zC ?_|refine zD ?_|refine zE ?_|refine zg ?_|refine zo rfl rfl (by first|exact trivial|(simp only[AllP];omega)|(simp(discharger:=omega)only[AllP,cA,cB];omega)|(simp only[AllP,cC,cD,cE,cF,cG];omega)) ?_|refine zn ?_|refine zb ?_|refine ze rfl ?_|refine zr ?_|refine zk ?_|refine zT rfl rfl rfl ?_|refine zU rfl rfl rfl ?_|refine zV rfl rfl rfl ?_|refine zf rfl ?_|refine zt rfl ?_)
    refine o_load rfl hB5 rfl rfl rfl rfl rfl ?_
    (repeat first|refine zA ?_|refine zB ?_|refine zC ?_|refine zD ?_|refine zE ?_|refine zg ?_|refine zo rfl rfl (by first|exact trivial|(simp only[AllP];omega)|(simp(discharger:=omega)only[AllP,cA,cB];omega)|(simp only[AllP,cC,cD,cE,cF,cG];omega)) ?_|refine zn ?_|refine zb ?_|refine ze rfl ?_|refine zr ?_|refine zk ?_|refine zT rfl rfl rfl ?_|refine zU rfl rfl rfl ?_|refine zV rfl rfl rfl ?_|refine zf rfl ?_|refine zt rfl ?_)
    refine o_call (hS W ad cap acc ho5 (fun z hz => ?_) (by omega)) rfl rfl rfl ?_
    · rw [← e1] at hz
      rcases flgGo_mem n _ _ z hz with h | ⟨y, hy, rfl⟩
      · simp at h
      · exact hv y hy
    rintro v W2 ⟨rfl, l', hp, hs, hO, kS⟩
    have e2 : l' = flagsV E R n := flags_sorted (by rw [e1]; exact hp) hs
    subst e2
    have hB5' := kS.blk (fun hb => by have := hn5' _ hb; have := hg.lt; omega) hB5
    have kw : Kp [] w W2 := hg.kp.since kS (fun b hb => by have := hn5' b hb; omega)
    have hsh2 : W2.heap[D]? = some (.deferred (some [])) := (kS.at_ D (Array.getElem?_eq_some_iff.1 hsh).1 (fun hb => by have := hn5' _ hb; omega)).trans hsh
    have hln := hp.length_eq
    rw [hln] at hO hB5'
    (repeat first|refine zA ?_|refine zB ?_|refine zC ?_|refine zD ?_|refine zE ?_|refine zg ?_|refine zo rfl rfl (by first|exact trivial|(simp only[AllP];omega)|(simp(discharger:=omega)only[AllP,cA,cB];omega)|(simp only[AllP,cC,cD,cE,cF,cG];omega)) ?_|refine zn ?_|refine zb ?_|refine ze rfl ?_|refine zr ?_|refine zk ?_|refine zT rfl rfl rfl ?_|refine zU rfl rfl rfl ?_|refine zV rfl rfl rfl ?_|refine zf rfl ?_|refine zt rfl ?_)
    refine m_seq (m_of ?_)
    (repeat first|refine zA ?_|refine zB ?_|refine zC ?_|refine zD ?_|refine zE ?_|refine zg ?_|refine zo rfl rfl (by first|exact trivial|(simp only[AllP];omega)|(simp(discharger:=omega)only[AllP,cA,cB];omega)|(simp only[AllP,cC,cD,cE,cF,cG];omega)) ?_|refine zn ?_|refine zb ?_|refine ze rfl ?_|refine zr ?_|refine zk ?_|refine zT rfl rfl rfl ?_|refine zU rfl rfl rfl ?_|refine zV rfl rfl rfl ?_|refine zf rfl ?_|refine zt rfl ?_)
    refine o_load rfl hB5' rfl rfl rfl rfl rfl ?_
    (repeat first|refine zA ?_|refine zB ?_|refine zC ?_|refine zD ?_|refine zE ?_|refine zg ?_|refine zo rfl rfl (by first|exact trivial|(simp only[AllP];omega)|(simp(discharger:=omega)only[AllP,cA,cB];omega)|(simp only[AllP,cC,cD,cE,cF,cG];omega)) ?_|refine zn ?_|refine zb ?_|refine ze rfl ?_|refine zr ?_|refine zk ?_|refine zT rfl rfl rfl ?_|refine zU rfl rfl rfl ?_|refine zV rfl rfl rfl ?_|refine zf rfl ?_|refine zt rfl ?_)
    refine m_ret ⟨hsh2, fun w8 hu8 => ?_⟩
    have kw8 : Kp [] w w8 := kw.since (hu8.kp [D] (.inl (by simp))) (by simp; omega)
    exact ⟨[.slice ad _ cap], ⟨⟨_, rfl⟩, trivial⟩, ad, cap, rfl, hO.upd hu8 (fun hm => by have := hn5' _ hm; omega), kw8, fun b hb => by have := hn5' b hb; omega⟩
end
end Go.Vc
