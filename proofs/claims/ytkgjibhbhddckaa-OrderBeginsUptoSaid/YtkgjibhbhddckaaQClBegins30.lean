/- order: flags sorted: the plain law. -/
import Derived.Test.YtkgjibhbhddckaaQClBegins29
namespace Go.Vc
open Go Go.Proofs
/-- the flags as the races tell them -/
def flgGo (n : Int) : List F2 → List P3 → List F2
  | acc, [] => acc
  | acc, x :: r => if n ≤ (x.2.2 : Int) then acc else flgGo n (if acc.any (fun y => decide (y.1 = x.1)) then acc else acc ++ [(x.1, (x.2.2 : Int))]) r
def insF (x : F2) : List F2 → List F2
  | [] => [x]
  | y :: r => if x.1 < y.1 then x :: y :: r else y :: insF x r
/-- .. kept sorted -/
def refGo (n : Int) : List F2 → List P3 → List F2
  | acc, [] => acc
  | acc, x :: r => if n ≤ (x.2.2 : Int) then acc else refGo n (if acc.any (fun y => decide (y.1 = x.1)) then acc else insF (x.1, (x.2.2 : Int)) acc) r
noncomputable def flagsV (E : List Ev) (R : List Int) (n : Int) : List F2 := refGo n [] (racesN E R E.length)
theorem insF_perm (x : F2) : ∀ l, (insF x l).Perm (x :: l)
  | [] => .refl _
  | y :: r => by
    unfold insF
    split
    · exact .refl _
    · exact ((insF_perm x r).cons y).trans (.swap x y r)
theorem insF_mem {x z : F2} {l : List F2} : z ∈ insF x l ↔ z = x ∨ z ∈ l := by
  rw [(insF_perm x l).mem_iff]; simp
theorem insF_sorted {x : F2} : ∀ {l : List F2}, l.Pairwise (fun a b => a.1 < b.1) → (∀ y ∈ l, y.1 ≠ x.1) → (insF x l).Pairwise (fun a b => a.1 < b.1)
  | [], _, _ => by simp [insF]
  | y :: r, h, hn => by
    rw [List.pairwise_cons] at h
    unfold insF
    split
    · rename_i hlt
      refine List.pairwise_cons.2 ⟨fun z hz => ?_, List.pairwise_cons.2 h⟩
      rcases List.mem_cons.1 hz with rfl | hz
      · exact hlt
      · have := h.1 z hz; omega
    · rename_i hlt
      have := hn y (by simp)
      refine List.pairwise_cons.2 ⟨fun z hz => ?_, insF_sorted h.2 (fun z hz => hn z (by simp [hz]))⟩
      rcases insF_mem.1 hz with rfl | hz
      · omega
      · exact h.1 z hz
theorem any_false {l : List F2} {v : Int} (h : l.any (fun y => decide (y.1 = v)) = false) : ∀ y ∈ l, y.1 ≠ v := fun y hy e => by
  have := List.any_eq_false.1 h y hy
  simp [e] at this
theorem refGo_sorted (n : Int) : ∀ (L : List P3) (acc : List F2), acc.Pairwise (fun a b => a.1 < b.1) → (refGo n acc L).Pairwise (fun a b => a.1 < b.1)
  | [], _, h => h
  | x :: r, acc, h => by
    unfold refGo
    split
    · exact h
    · cases ha : acc.any (fun y => decide (y.1 = x.1)) with
      | true => exact refGo_sorted n r acc h
      | false => exact refGo_sorted n r _ (insF_sorted h (any_false ha))
theorem flgGo_perm (n : Int) : ∀ (L : List P3) (a b : List F2), a.Perm b → (flgGo n a L).Perm (refGo n b L)
  | [], _, _, h => h
  | x :: r, a, b, h => by
    unfold flgGo refGo
    have e : a.any (fun y => decide (y.1 = x.1)) = b.any (fun y => decide (y.1 = x.1)) := h.any_eq
    rw [e]
    split
    · exact h
    · cases hb : b.any (fun y => decide (y.1 = x.1)) with
      | true => exact flgGo_perm n r a b h
      | false => exact flgGo_perm n r _ _ ((h.append_right _).trans ((List.perm_append_comm (l₁ := b)).trans (insF_perm _ b).symm))
theorem sorted_eq : ∀ {l m : List F2}, l.Perm m → l.Pairwise (fun a b => a.1 ≤ b.1) → m.Pairwise (fun a b => a.1 < b.1) → l = m
  | [], m, h, _, _ => h.nil_eq
  | x :: r, [], h, _, _ => absurd h.symm.nil_eq (by simp)
  | x :: r, y :: s, h, hl, hm => by
    rw [List.pairwise_cons] at hl hm
    have e : x = y := by
      have hx : x ∈ y :: s := h.mem_iff.1 (by simp)
      have hy : y ∈ x :: r := h.mem_iff.2 (by simp)
      rcases List.mem_cons.1 hx with e | hx
      · exact e
      rcases List.mem_cons.1 hy with e | hy
      · exact e.symm
      have h1 := hm.1 x hx
      have h2 := hl.1 y hy
      omega
    subst e
    rw [sorted_eq (h.cons_inv) hl.2 hm.2]
theorem flags_sorted {E : List Ev} {R : List Int} {n : Int} {l : List F2} (h : (flgGo n [] (racesN E R E.length)).Perm l) (hs : l.Pairwise (fun a b => a.1 ≤ b.1)) : l = flagsV E R n :=
  sorted_eq (h.symm.trans (flgGo_perm n _ [] [] (.refl _))) hs (refGo_sorted n _ [] .nil)
theorem flgGo_le (n : Int) : ∀ (L : List P3) (a : List F2), (flgGo n a L).length ≤ a.length + L.length
  | [], _ => by simp [flgGo]
  | x :: r, a => by
    unfold flgGo
    split
    · simp
    · split
      · have := flgGo_le n r a; simp; omega
      · have := flgGo_le n r (a ++ [(x.1, (x.2.2 : Int))]); simp at this ⊢; omega
theorem flgGo_mem (n : Int) : ∀ (L : List P3) (a : List F2) (z : F2), z ∈ flgGo n a L → z ∈ a ∨ ∃ x ∈ L, z = (x.1, (x.2.2 : Int))
  | [], _, z, h => .inl h
  | x :: r, a, z, h => by
    unfold flgGo at h
    split at h
    · exact .inl h
    · split at h
      · rcases flgGo_mem n r a z h with h | ⟨y, hy, e⟩
        · exact .inl h
        · exact .inr ⟨y, by simp [hy], e⟩
      · rcases flgGo_mem n r _ z h with h | ⟨y, hy, e⟩
        · rcases List.mem_append.1 h with h | h
          · exact .inl h
          · exact .inr ⟨x, by simp, by simpa using h⟩
        · exact .inr ⟨y, by simp [hy], e⟩
theorem flgGo_step (n : Int) (acc : List F2) (x : P3) (r : List P3) (h : ¬ n ≤ (x.2.2 : Int)) : flgGo n acc (x :: r) = flgGo n (if acc.any (fun y => decide (y.1 = x.1)) then acc else acc ++ [(x.1, (x.2.2 : Int))]) r := by
  rw [flgGo, if_neg h]
theorem flgGo_stop (n : Int) (acc : List F2) (x : P3) (r : List P3) (h : n ≤ (x.2.2 : Int)) : flgGo n acc (x :: r) = acc := by
  rw [flgGo, if_pos h]
end Go.Vc
/- order: Flags, over the sort. -/
namespace Go.Vc
open Go Go.Proofs
set_option maxRecDepth 10000
variable {w : World}
/-- what is asked of the sort -/
def SortF : Prop := ∀ (w : World) (ad : Option Addr) (cap : Nat) (l : List F2), OwnS w 68 2 ad l.length cap (flgsC l) → (∀ x ∈ l, 0 ≤ x.1 ∧ x.1 ≤ 1048576) → l.length ≤ 4194304 →
  Ret Try.prog 67 [.slice ad l.length cap, .func (.func 68) #[] #[]] w (fun v w' => v = .tuple #[] ∧ ∃ l', l.Perm l' ∧ l'.Pairwise (fun a b => a.1 ≤ b.1) ∧ OwnS w' 68 2 ad l.length cap (flgsC l') ∧ Kp (blkOf ad) w w')
section
variable {p : Option Addr} {F : List Nat} {E : List Ev} {R : List Int}
set_option maxHeartbeats 6400000 in
theorem xFlags_ret (hS : SortF) (h : OX w p F E R) (hv : ∀ x ∈ racesN E R E.length, 0 ≤ x.1 ∧ x.1 ≤ 1048576) (n : Int) : Ret Try.prog 20 [.pointer p, I n] w (fun r w' => ∃ ad cap, r = .slice ad (flagsV E R n).length cap ∧ OwnS w' 68 2 ad (flagsV E R n).length cap (flgsC (flagsV E R n)) ∧ Kp [] w w' ∧ ∀ b, b ∈ blkOf ad → w.heap.size ≤ b) := by
  have hw := h.lt
  have hsm := racesN_small R h.small
  refine enterMC Try.call20 Try.func20 rfl rfl rfl rfl ?_
  refine m_seq (m_of ?_)
  (repeat refine zg ?_)
  refine o_box rfl rfl rfl ?_
  intro b3 w1 hb3 hu1
  (repeat first|refine zo rfl rfl trivial ?_|refine zn ?_)
  refine m_seq (m_of ?_)
  (repeat refine zg ?_)
  refine o_alloc rfl rfl rfl rfl ?_
  intro b5 w2 hb5 hu2
  have z1 := hu1.lt
  have z2 := hu2.lt
  have k1 := hu1.kp [] (.inr (by omega))
  have k2 := hu2.kp [] (.inr (by omega))
  have s1 := k1.size
  have s2 := k2.size
  have hV2 : Blk w2 b3 [I n] 3 := k2.blk (by simp) hu1.blk
  have k02 := k1.trans k2
  (repeat refine zn ?_)
  refine m_seq (m_seq (m_of ?_))
  (repeat first|refine zg ?_|refine zo rfl rfl trivial ?_)
  refine o_call (xAll_ret (h.kp0 k02)) rfl rfl rfl ?_
  rintro q w6 ⟨bx, hseq, k6, hbx⟩
  obtain ⟨fi, lb, rfl, hI⟩ := hseq.is
  have s6 := k6.size
  have g6 : AccI w w6 (w6.heap.size + 2) b5 42 68 2 0 (flgsC []) := ⟨⟨none, 0, k6.blk (by simp) hu2.blk, ownS_nil _ _ _, by simp [blkOf]⟩, by omega, by omega, k02.trans k6⟩
  have hV6 := k6.blk (by simp) hV2
  have hn5 : b5 ∉ bx :: F := fun hm => by
    rcases List.mem_cons.1 hm with q | hm
    · omega
    · have := hw b5 hm; omega
  (repeat refine zn ?_)
  refine m_block ?_
  refine m_range2 hI [0] (fun pre W => ∃ acc : List F2, acc.length ≤ pre.length ∧ AccI w W (w6.heap.size + 2) b5 42 68 2 acc.length (flgsC acc) ∧ Blk W b3 [I n] 3 ∧ ∀ post, flgGo n [] (pre ++ post) = flgGo n acc post)
    (fun c pre W => c = .exit 0 ∧ ∃ acc : List F2, AccI w W (w6.heap.size + 2) b5 42 68 2 acc.length (flgsC acc) ∧ ∀ post, flgGo n [] (pre ++ post) = acc) rfl rfl (fun _ => rfl) ?_ ?_ ?_ ?_ ?_ ?_
  · rintro pre W1 W2 ⟨acc, hl, hg, hv, hq⟩ hnc
    exact ⟨acc, hl, hg.nc hnc (by omega), hnc.blk hv, hq⟩
  · rintro c pre W1 W2 ⟨hc, acc, hg, hq⟩ hnc
    exact ⟨hc, acc, hg.nc hnc (by omega), hq⟩
  · exact ⟨[], by simp, g6, hV6, fun post => rfl⟩
  · rintro D l r pre x post W hx' hD hl ⟨acc, hal, hg, hv, hq⟩
    (repeat refine zg ?_)
    refine o_alloc rfl rfl rfl rfl ?_
    intro b8 W1 hb8 hu8
    refine o_storeA (cs := pairC x) rfl hu8.blk (Nat.le_refl _) rfl (by simp [Value.oneCell']) rfl rfl rfl rfl ?_
    intro W1' hu8'
    have k8 : Kp [] W W1' := (hu8.kp [] (.inr (by omega))).since (hu8'.kp [b8] (.inl (by simp))) (by simp; omega)
    have hB8' : Blk W1' b8 (pairC x) 53 := hu8'.blk
    (repeat refine zn ?_)
    refine ⟨k8, ?_⟩
    intro W2 hnc hkeep
    have hB8 := hnc.blk hB8'
    have hg2 := (hg.kp0 k8).nc hnc (show w.heap.size ≤ w6.heap.size by omega)
    have hv2 := hnc.blk (k8.blk (by simp) hv)
    have hlW : l < W2.heap.size := (Array.getElem?_eq_some_iff.1 hkeep.loop).1
    have hle : acc.length ≤ 4194304 := by
      have h2 : pre.length ≤ (racesN E R E.length).length := by rw [hx']; simp
      omega
    have hx2 : ∀ post, flgGo n [] (pre ++ [x] ++ post) = flgGo n acc (x :: post) := fun post => by rw [List.append_assoc]; exact hq _
    obtain ⟨ad, cap, hB5, ho5, hn5'⟩ := hg2.hdr
    (repeat first|refine zA ?_|refine zB ?_|refine zg ?_|refine zo rfl rfl trivial ?_|refine zb ?_)
    refine o_load (v := I (x.2.2 : Int)) rfl hB8 rfl rfl rfl rfl rfl ?_
    refine o_load rfl hv2 rfl rfl rfl rfl rfl ?_
    (repeat first|refine zo rfl rfl trivial ?_|refine zn ?_)
    refine r_if (p := n ≤ (x.2.2 : Int)) rfl (fun hc => ?_) (fun hc => ?_)
    · (repeat refine ze rfl ?_)
      exact ⟨⟨rfl, acc, hg2, fun post => (hx2 post).trans (flgGo_stop n acc x post hc)⟩, hkeep⟩
    have hgo := fun post => (hx2 post).trans (flgGo_step n acc x post hc)
    (repeat first|refine zA ?_|refine zg ?_|refine zk ?_)
    refine o_load rfl hB5 rfl rfl rfl rfl rfl ?_
    (repeat refine zo rfl rfl trivial ?_)
    refine o_call (ContainsFlag_ret hB8 ho5.readN (by omega)) rfl rfl rfl ?_
    rintro v W3 ⟨rfl, k3⟩
    have hB53 := k3.blk (by simp) hB5
    have ho53 := ho5.kp k3 (by simp)
    have hB83 := k3.blk (by simp) hB8
    have hv3 := k3.blk (by simp) hv2
    have hg3 := hg2.kp0 k3
    have hkF : ∀ b, b ∈ bx :: F → b < W2.heap.size := fun b hb => by have := hI.1 b hb; omega
    have hkeep3 : Keeps D l r (bx :: F) w6 W3 := hkeep.kp hkF k3 (by simp) (by simp) (by simp)
    have s3 := k3.size
    (repeat first|refine zo rfl rfl trivial ?_|refine zn ?_)
    cases ha : acc.any (fun y => decide (y.1 = x.1)) with
    | true =>
      refine r_no rfl rfl ?_
      (repeat refine zk ?_)
      refine ⟨⟨acc, by simp; omega, hg3, hv3, fun post => ?_⟩, hkeep3⟩
      rw [hgo, ha, if_pos rfl]
    | false =>
      refine r_yes rfl rfl ?_
      (repeat refine zg ?_)
      refine o_load rfl hB53 rfl rfl rfl rfl rfl ?_
      (repeat refine zo rfl rfl trivial ?_)
      refine o_load (v := I x.1) rfl hB83 rfl rfl rfl rfl rfl ?_
      (repeat refine zo rfl rfl trivial ?_)
      refine o_load (v := I (x.2.2 : Int)) rfl hB83 rfl rfl rfl rfl rfl ?_
      refine o_build (flgC (x.1, (x.2.2 : Int))) rfl rfl rfl rfl rfl rfl rfl ?_
      refine o_buildSliceN (flgC (x.1, (x.2.2 : Int))) rfl rfl rfl (by kernel_rfl) rfl rfl rfl rfl ?_
      intro b9 W4 hb9 hu9
      have k9 : Kp [] W3 W4 := hu9.kp [] (.inr (by omega))
      refine o_append (flgC (x.1, (x.2.2 : Int))) rfl rfl (ho53.kp k9 (by simp)) (fun j v hv => by rw [addr_lit, Nat.zero_add]; exact hu9.blk.cell hv) rfl rfl rfl (by omega) rfl (by omega) (by simp [Value.oneCell']) (by simp only [maxLen]; omega) (by omega) rfl rfl ?_
      intro ad' cap' W5 ho4 k4 hn4
      have hB5' : Blk W5 b5 [.slice ad acc.length cap] 42 := k4.blk (fun hb => by have := hn5' _ hb; have := hg2.lt; omega) (k9.blk (by simp) hB53)
      refine o_store rfl hB5' (by simp) rfl rfl rfl rfl rfl rfl ?_
      intro W6 hu5
      have hv4 := k4.blk (fun hb => by have := hn5' _ hb; have := hg2.lt; have := hg2.fresh; omega) (k9.blk (by simp) hv3)
      obtain ⟨hg5, k5⟩ := hg3.push hB53 (by omega) k9 ho4 k4 hn4 hu5
      (repeat refine zn ?_)
      refine ⟨⟨acc ++ [(x.1, (x.2.2 : Int))], by simp; omega, by rw [List.length_append, flgsC_snoc]; exact hg5, hu5.kept (by omega) hv4, fun post => ?_⟩, ?_⟩
      · rw [hgo, ha]; rfl
      exact hkeep3.kp (fun b hb => by have := hI.1 b hb; omega) k5 (fun hm => by
        rcases List.mem_cons.1 hm with q | q
        · have := hg2.lt; omega
        · have := hn5' _ q; omega) (fun hm => by
        rcases List.mem_cons.1 hm with q | q
        · have := hg2.lt; omega
        · have := hn5' _ q; omega) (fun b hb hm => by
        rcases List.mem_cons.1 hm with q | q
        · subst q; exact hn5 hb
        · have := hn5' _ q; have := hI.1 b hb; omega)
  · rintro D W hD ⟨acc, hal, hg, hv', hq⟩ hsh
    have e1 : flgGo n [] (racesN E R E.length) = acc := by have := hq []; rwa [List.append_nil] at this
    obtain ⟨ad, cap, hB5, ho5, hn5'⟩ := hg.hdr
    refine m_seq (m_of ?_)
    (repeat refine zg ?_)
    refine o_load rfl hB5 rfl rfl rfl rfl rfl ?_
    refine o_call (hS W ad cap acc ho5 (fun z hz => ?_) (by omega)) rfl rfl rfl ?_
    · rw [← e1] at hz
      rcases flgGo_mem n _ _ z hz with h | ⟨y, hy, rfl⟩
      · simp at h
      · exact hv y hy
    rintro v W2 ⟨rfl, l', hp, hs, hO, kS⟩
    have e2 : l' = flagsV E R n := flags_sorted (by rw [e1]; exact hp) hs
    subst e2
    have hB5' := kS.blk (fun hb => by have := hn5' _ hb; have := hg.lt; omega) hB5
    have kw : Kp [] w W2 := hg.kp.since kS (fun b hb => by have := hn5' b hb; omega)
    have hsh2 : W2.heap[D]? = some (.deferred (some [])) := (kS.at_ D (Array.getElem?_eq_some_iff.1 hsh).1 (fun hb => by have := hn5' _ hb; omega)).trans hsh
    have hln := hp.length_eq
    rw [hln] at hO hB5'
    (repeat refine zn ?_)
    refine m_seq (m_of ?_)
    (repeat refine zg ?_)
    refine o_load rfl hB5' rfl rfl rfl rfl rfl ?_
    (repeat first|refine zo rfl rfl trivial ?_|refine zn ?_)
    refine m_ret ⟨hsh2, fun w8 hu8 => ?_⟩
    have kw8 : Kp [] w w8 := kw.since (hu8.kp [D] (.inl (by simp))) (by simp; omega)
    exact ⟨[.slice ad _ cap], ⟨⟨_, rfl⟩, trivial⟩, ad, cap, rfl, hO.upd hu8 (fun hm => by have := hn5' _ hm; omega), kw8, fun b hb => by have := hn5' b hb; omega⟩
  · rintro D c pre post W hD hc hx' ⟨rfl, acc, hg, hq⟩ hsh
    have e1 : flgGo n [] (racesN E R E.length) = acc := by rw [hx']; exact hq post
    have hal : acc.length ≤ 4194304 := by
      have := flgGo_le n (racesN E R E.length) []
      rw [e1] at this; simp at this; omega
    refine m_exit rfl ?_
    obtain ⟨ad, cap, hB5, ho5, hn5'⟩ := hg.hdr
    refine m_seq (m_of ?_)
    (repeat refine zg ?_)
    refine o_load rfl hB5 rfl rfl rfl rfl rfl ?_
    refine o_call (hS W ad cap acc ho5 (fun z hz => ?_) (by omega)) rfl rfl rfl ?_
    · rw [← e1] at hz
      rcases flgGo_mem n _ _ z hz with h | ⟨y, hy, rfl⟩
      · simp at h
      · exact hv y hy
    rintro v W2 ⟨rfl, l', hp, hs, hO, kS⟩
    have e2 : l' = flagsV E R n := flags_sorted (by rw [e1]; exact hp) hs
    subst e2
    have hB5' := kS.blk (fun hb => by have := hn5' _ hb; have := hg.lt; omega) hB5
    have kw : Kp [] w W2 := hg.kp.since kS (fun b hb => by have := hn5' b hb; omega)
    have hsh2 : W2.heap[D]? = some (.deferred (some [])) := (kS.at_ D (Array.getElem?_eq_some_iff.1 hsh).1 (fun hb => by have := hn5' _ hb; omega)).trans hsh
    have hln := hp.length_eq
    rw [hln] at hO hB5'
    (repeat refine zn ?_)
    refine m_seq (m_of ?_)
    (repeat refine zg ?_)
    refine o_load rfl hB5' rfl rfl rfl rfl rfl ?_
    (repeat first|refine zo rfl rfl trivial ?_|refine zn ?_)
    refine m_ret ⟨hsh2, fun w8 hu8 => ?_⟩
    have kw8 : Kp [] w w8 := kw.since (hu8.kp [D] (.inl (by simp))) (by simp; omega)
    exact ⟨[.slice ad _ cap], ⟨⟨_, rfl⟩, trivial⟩, ad, cap, rfl, hO.upd hu8 (fun hm => by have := hn5' _ hm; omega), kw8, fun b hb => by have := hn5' b hb; omega⟩
end
end Go.Vc
