/- LocksetPlays: the walk. -/
import Derived.Test.YtkgjibhbhddckaaDoorQClKPlays45
import Derived.Test.YtkgjibhbhddckaaDoorQClKPlays46
namespace Go.Vc
open Go Go.Proofs
set_option maxRecDepth 10000
variable {w : World}
theorem arr2 {f : Nat → Value} {k : Nat} (h : k < 2) : [f 0, f 1][k]? = some (f k) := by
  match k, h with
  | 0, _ => rfl
  | 1, _ => rfl
theorem and1x (x : Int) : ∃ k : Nat, ibits .and .i64 x 1 = (k : Int) ∧ k < 2 := by
  have h1 : (BitVec.ofInt 64 x &&& BitVec.ofInt 64 1).toNat ≤ 1 := by
    rw [BitVec.toNat_and]
    exact Nat.and_le_right
  refine ⟨(BitVec.ofInt 64 x &&& BitVec.ofInt 64 1).toNat, ?_, by omega⟩
  show IntKind.i64.wrap ((BitVec.ofInt 64 x &&& BitVec.ofInt 64 1).toNat : Int) = _
  rw [IntKind.wrap_i64]
  omega
theorem Kq.blk {Q : Nat → Prop} {w w' : World} (h : Kq Q w w') {b : Nat} {l : List Value} {T : TypeId} (hS : ¬ Q b) (k : Blk w b l T) : Blk w' b l T := by
  obtain ⟨L, hL, hq⟩ := h.kp
  exact hL.blk (fun hb => hS (hq _ hb)) k
theorem ReadS.kqL {ad : Option Addr} {xs : List Value} {w w' : World} (h : ReadS w ad xs) {Q : Nat → Prop} (k : Kq Q w w') (hd : 0 < xs.length → ∀ b, b ∈ blkOf ad → ¬ Q b) : ReadS w' ad xs := by
  by_cases hx : 0 < xs.length
  · obtain ⟨L, hL, hq⟩ := k.kp
    exact h.kp hL fun b hb hb2 => hd hx b hb (hq b hb2)
  · have : xs = [] := by
      cases xs with
      | nil => rfl
      | cons a r => simp at hx
    subst this
    cases ad with
    | none => rfl
    | some a => intro i v hv; simp at hv
theorem OwnS.tail {T : TypeId} {size : Nat} {ad : Option Addr} {n cap : Nat} {xs ys : List Value} (h : OwnS w T size ad n cap (xs ++ ys)) (hy : 0 < ys.length) : ∃ b, ad = some ⟨b, 0, none⟩ ∧ ∀ j v, ys[j]? = some v → w.cell? ⟨b, xs.length + j, none⟩ = some v := by
  obtain ⟨b, off, e, _, hc⟩ := h.readN.at_ (by simp; omega)
  subst e
  have h0 : off = 0 := h.2.1
  subst h0
  refine ⟨b, rfl, fun j v hv => ?_⟩
  have := hc (xs.length + j) v (by rw [List.getElem?_append_right (by omega)]; simpa using hv)
  rwa [Nat.zero_add] at this
theorem POk.warn_len {s : Shp} {o : Option PG} (hP : POk w s o) : (tWarn s o).length ≤ 4611686018427387904 := by
  cases o with
  | none => simp [tWarn]
  | some x => have := warnR_len x.A s.va.toNat; have := (hP x rfl).rs.rc.ok.sh.2.1; show (warnR x.A s.va.toNat).length ≤ _; omega
structure Fl3 (os : Nat → Option PG) (a : AskG) (b11 b12 b14 : Nat) (w' : World) : Prop where
  a1 : Blk w' b11 [kV (os 0), kV (os 1)] 53
  a2 : Blk w' b12 [rV (os 0), rV (os 1)] 54
  a3 : Blk w' b14 (askC a) 57
section
variable {os : Nat → Option PG} {a : AskG} {b11 b12 b14 : Nat}
theorem Fl3.g1 (h : Fl3 os a b11 b12 b14 w) {k : Nat} (hk : k < 2) : w.cell? ⟨b11, k, none⟩ = some (kV (os k)) := h.a1.cell (arr2 (f := fun j => kV (os j)) hk)
theorem Fl3.g2 (h : Fl3 os a b11 b12 b14 w) {k : Nat} (hk : k < 2) : w.cell? ⟨b12, k, none⟩ = some (rV (os k)) := h.a2.cell (arr2 (f := fun j => rV (os j)) hk)
theorem Fl3.kq (h : Fl3 os a b11 b12 b14 w) {w' : World} {Q : Nat → Prop} (k : Kq Q w w') (h1 : ¬ Q b11) (h2 : ¬ Q b12) (h3 : ¬ Q b14) : Fl3 os a b11 b12 b14 w' := ⟨k.blk h1 h.a1, k.blk h2 h.a2, k.blk h3 h.a3⟩
theorem Fl3.kp0 (h : Fl3 os a b11 b12 b14 w) {w' : World} (k : Kp [] w w') : Fl3 os a b11 b12 b14 w' := ⟨k.blk (by simp) h.a1, k.blk (by simp) h.a2, k.blk (by simp) h.a3⟩
theorem Fl3.ev (h : Fl3 os a b11 b12 b14 w) (j : Nat) (v : Value) (hv : (evC a.ev)[j]? = some v) : w.cell? ⟨b14, 3 + j, none⟩ = some v := by
  match j, hv with
  | 0, hv => exact h.a3.cell hv
  | 1, hv => exact h.a3.cell hv
  | 2, hv => exact h.a3.cell hv
  | j + 3, hv => simp [evC] at hv
end
theorem SI.later {s : Shp} {W : World} {b11 b12 N N' : Nat} {os : Nat → Option PG} (h : SI w W s b11 b12 os N) (hn : N ≤ N') : SI w W s b11 b12 os N' := ⟨h.seat, h.apart, fun j x hx => ⟨(h.nw j x hx).1, Nat.le_trans (h.nw j x hx).2 hn⟩, h.a1, h.a2, h.a1w, h.a2w, h.ne, h.kp, h.ta, h.tl⟩
theorem setO_lt {os : Nat → Option PG} {k : Nat} {o : Option PG} (h : ∀ j y, os j = some y → j < 2) (hk : k < 2) {j : Nat} {y : PG} (hy : setO os k o j = some y) : j < 2 := by
  unfold setO at hy
  by_cases c : j = k
  · omega
  · rw [if_neg c] at hy; exact h j y hy
theorem set2 {os : Nat → Option PG} {o : Option PG} {k : Nat} {f : Option PG → Value} (hk : k < 2) : [f (os 0), f (os 1)].set (1 - k) (f o) = [f (setO os (1 - k) o 0), f (setO os (1 - k) o 1)] := by
  match k, hk with
  | 0, _ => simp [setO]
  | 1, _ => simp [setO]
set_option maxHeartbeats 51200000 in
theorem locksetPlays_ret (hT : TabW w) {s : Shp} {pad sad : Option Addr} {cap scap : Nat} {script : List AskG} (hr : ReadS w pad (s.pa.map I)) (hpl : s.pa.length ≤ 1048576) (hs : ReadS w sad (script.flatMap askC)) (hsl : script.length ≤ 1048576) (ha : ∀ a ∈ script, AskOk w a) :
    Ret Tryd.prog 4 [.agg ⟨shC s pad cap⟩, .slice sad script.length scap] w (fun v w' => v = .bool true ∧ Kp [] w w') := by
  refine enter Tryd.call4 Tryd.func4 rfl rfl rfl rfl ?_
  (repeat first|refine zA ?_|refine zg ?_)
  refine o_box rfl rfl rfl ?_
  intro b2 w1 hb2 hu1
  have k1 : Kp [] w w1 := hu1.kp [] (.inr (by omega))
  have hS1 : Blk w1 b2 (shC s pad cap) 29 := hu1.blk
  have z1 := hu1.lt
  (repeat first|refine zA ?_|refine zg ?_|refine zo rfl rfl trivial ?_|refine zn ?_)
  refine o_loadA (vs := shC s pad cap) rfl (fun j v hv => by rw [Nat.zero_add]; exact hS1.cell hv) rfl rfl rfl rfl rfl rfl ?_
  refine o_alloc rfl rfl rfl rfl ?_
  intro b5 w2 hb5 hu2
  refine o_storeA (cs := shC s pad cap) rfl hu2.blk (Nat.le_refl _) rfl (by simp [Value.oneCell']) rfl rfl rfl rfl ?_
  intro w3 hu3
  have hT5 : Blk w3 b5 (shC s pad cap) 29 := hu3.blk
  have k13 : Kp [] w1 w3 := (hu2.kp [] (.inr (by omega))).since (hu3.kp [b5] (.inl (by simp))) (by simp; omega)
  have k03 := k1.trans k13
  have hS3 := k13.blk (by simp) hS1
  have y3 := k13.size
  have y1 := k1.size
  have l5 := hT5.lt
  have l2 := hS3.lt
  (repeat refine zn ?_)
  refine r_seq ?_
  refine r_cut (α := Option Addr × Nat) [1, 2, 5] (fun _ => [.slice sad script.length scap, ptr b2, ptr b5]) (fun y w' => Blk w' b5 (shC s y.1 y.2) 29 ∧ OwnS w' 3 1 y.1 (s.pa.length + 1) y.2 (s.pa.map I ++ [I 77]) ∧ Kp [b5] w3 w' ∧ ∀ b, b ∈ blkOf y.1 → w3.heap.size ≤ b) ?_ ?_
  · refine r_any (fun w' => Kp [] w3 w') 11 follows_mixed (by kernel_rfl) ?_
    have kk := (Sm.drew w3).kp []
    generalize ({ w3 with drawn := w3.drawn + 1 } : World) = wd at kk ⊢
    have hrd := hr.kp (k03.trans kk) (by simp)
    have zd := kk.size
    refine t_seg [0, 1, 5, 6, 7] 6 (by kernel_rfl) (by kernel_rfl) (by kernel_rfl) kk ?_
    try dsimp only [List.map_cons, List.map_nil]
    (repeat refine xo rfl rfl trivial ?_)
    refine x_load (v := .slice pad s.pa.length cap) rfl rfl (fun w' h' => (h'.blk (by simp) hS3).cell rfl) rfl rfl rfl rfl ?_
    (repeat refine xo rfl rfl trivial ?_)
    refine x_load (v := .slice pad s.pa.length cap) rfl rfl (fun w' h' => (h'.blk (by simp) hS3).cell rfl) rfl rfl rfl rfl ?_
    (repeat first|refine xo rfl rfl trivial ?_|refine xn ?_)
    refine t_with (fun e w' => ∃ (lad : Option Addr) (lcap bm : Nat), [1, 2, 5, 26, 27, 31].map e = [.slice sad script.length scap, ptr b2, ptr b5, .slice lad s.pa.length lcap, .slice (some ⟨bm, 0, none⟩) 1 1, I s.pa.length] ∧ Kp [] wd w' ∧ OwnS w' 3 1 lad s.pa.length lcap (s.pa.map I) ∧ Blk w' bm [I 77] 3 ∧ ∀ b, b ∈ blkOf lad → w3.heap.size ≤ b) 4 [0, 1, 5, 6, 7, 2, 3] ?_ (fun hleaf => ?_)
    · rintro e wz ⟨lad, lcap, bm, he', kz, ho, hBm, hln⟩
      rw [← over_eq he']
      have zz := kz.size
      refine t_one 4 (by kernel_rfl) rfl ?_
      refine o_append1 rfl rfl ho hBm rfl rfl rfl rfl (by simp only [maxLen]; omega) (by omega) rfl rfl ?_
      intro xad xcap w8 ho8 k8 hn8
      have hx8 : ∀ b, b ∈ blkOf xad → w3.heap.size ≤ b := fun b hb => by
        rcases hn8 b hb with q | q
        · exact hln b q
        · omega
      have hcap8 := ho8.le_cap
      have q38 : Kp [] w3 w8 := (kk.trans kz).since k8 hln
      refine o_nil ⟨.inr q38, ?_⟩
      refine t_one 8 (by kernel_rfl) rfl ?_
      (repeat first|refine zo rfl rfl (by first|exact trivial|(simp only[AllP];omega)) ?_|refine zn ?_)
      refine ⟨.inr q38, ?_⟩
      refine t_one 9 (by kernel_rfl) rfl ?_
      (repeat first|refine zo rfl rfl trivial ?_|refine zn ?_)
      refine ⟨.inr q38, ?_⟩
      refine t_one 10 (by kernel_rfl) rfl ?_
      refine o_store (v := .slice xad s.pa.length xcap) rfl (q38.blk (by simp) hT5) (by simp) rfl rfl rfl rfl rfl rfl ?_
      intro w9 hu9
      have hS9 : Blk w9 b5 (shC s xad xcap) 29 := hu9.blk
      refine o_nil ⟨.inl (by kernel_rfl), ?_⟩
      refine t_end (by kernel_rfl) ?_
      exact ⟨(xad, xcap), rfl, hS9, ho8.upd hu9 (fun hb => by have := hx8 _ hb; omega), (q38.mono (by simp)).trans (hu9.kp _ (.inl (by simp))), hx8⟩
    refine t_two 2 3 (by kernel_rfl) rfl rfl ?_ ?_
    · refine o_cloneR (s.pa.map I) rfl rfl hrd (by simp) (fun v hv => by obtain ⟨x, _, rfl⟩ := List.mem_map.1 hv; rfl) rfl rfl rfl (by omega) (by simp only [maxLen]; omega) (by omega) rfl rfl ?_
      intro lad lcap w4 ho4 k4 hn4
      refine o_nil ⟨.inr (kk.trans k4), ?_⟩
      refine t_one 3 (by kernel_rfl) rfl ?_
      refine o_buildSlice [I 77] rfl (by simp [Value.oneCell']) rfl (by decide) (by decide) rfl rfl rfl rfl rfl ?_
      intro bm w5 hbm hu5
      have k5 : Kp [] w4 w5 := hu5.kp [] (.inr (by omega))
      refine o_nil ⟨.inr (kk.trans (k4.trans k5)), ?_⟩
      exact t_same (by kernel_rfl) (hleaf _ _ ⟨lad, lcap, bm, rfl, k4.trans k5, ho4.kp k5 (by simp), hu5.blk, fun b hb => by have := hn4 b hb; omega⟩)
    · refine o_buildSlice [I 77] rfl (by simp [Value.oneCell']) rfl (by decide) (by decide) rfl rfl rfl rfl rfl ?_
      intro bm w4 hbm hu4
      have k4 : Kp [] wd w4 := hu4.kp [] (.inr (by omega))
      have z4 := k4.size
      refine o_nil ⟨.inr (kk.trans k4), ?_⟩
      refine t_one 2 (by kernel_rfl) rfl ?_
      refine o_cloneR (s.pa.map I) rfl rfl (hrd.kp k4 (by simp)) (by simp) (fun v hv => by obtain ⟨x, _, rfl⟩ := List.mem_map.1 hv; rfl) rfl rfl rfl (by omega) (by simp only [maxLen]; omega) (by omega) rfl rfl ?_
      intro lad lcap w5 ho5 k5 hn5
      refine o_nil ⟨.inr (kk.trans (k4.trans k5)), ?_⟩
      exact t_same (by kernel_rfl) (hleaf _ _ ⟨lad, lcap, bm, rfl, k4.trans k5, ho5, k5.blk (by simp) hu4.blk, fun b hb => by have := hn5 b hb; omega⟩)
  rintro ⟨xad, xcap⟩ e w4 ⟨hT4, hP4, k4, hx4⟩
  dsimp only at hT4 hP4 hx4
  have y4 := k4.size
  have k04 : Kp [] w w4 := k03.since k4 (by simp; omega)
  have hS4 := k4.blk (b := b2) (by simp; omega) hS3
  have hP4r : ReadS w4 xad (s.pa.map I) := by
    have := hP4.read.take (s.pa.map I).length
    simpa using this
  have hT4' := hT.kp k04 (by simp)
  have tl := hT.lt
  refine r_seq ?_
  refine r_cut (α := Option PG) [1, 2, 5, 6, 7] (fun o => [.slice sad script.length scap, ptr b2, ptr b5, kV o, I (if o.isSome then 0 else 5)]) (fun o w' => Kp [] w4 w' ∧ (o.isSome = shapeB s) ∧ ∀ x, o = some x → KS w' x.k s (newLS s) ∧ ∀ b, x.k.In b → w4.heap.size ≤ b) ?_ ?_
  · (repeat refine zg ?_)
    refine o_loadA (vs := shC s xad xcap) rfl (fun j v hv => by rw [Nat.zero_add]; exact hT4.cell hv) rfl rfl rfl rfl rfl rfl ?_
    refine o_call (kNew_ret hT4' hP4r (by omega)) rfl rfl rfl ?_
    rintro v w5 (⟨hsb, rfl, k5⟩ | ⟨hsb, kp, ck, mh, vb, rfl, hk5, k5, hn5⟩)
    · (repeat first|refine zo rfl rfl trivial ?_|refine zn ?_)
      exact ⟨none, rfl, k5, hsb.symm, fun x hx => by cases hx⟩
    · (repeat first|refine zo rfl rfl trivial ?_|refine zn ?_)
      exact ⟨some ⟨newKG kp ck mh vb s.va.toNat, ⟨0, ⟨0, none, 0, none, 0, none, 0, none, 0⟩, none, 0, none, 0, []⟩, newLS s, []⟩, rfl, k5, hsb.symm, fun x hx => by
        cases hx
        exact ⟨⟨hk5, fun t => rfl, by simp [newKG, newLS, varM]⟩, hn5⟩⟩
  rintro o1 e w5 ⟨k5, ho1, hK5⟩
  have k05 := k04.trans k5
  have hS5 := k5.blk (by simp) hS4
  have hT5' := k5.blk (by simp) hT4
  have y5 := k5.size
  refine r_seq ?_
  refine r_cut (α := Option PG) [1, 2, 5, 6, 7, 8, 9] (fun o => [.slice sad script.length scap, ptr b2, ptr b5, kV o, I (if o.isSome then 0 else 5), rV o, I (if o.isSome then 0 else 5)]) (fun o w' => Kp [] w5 w' ∧ ∀ x, o = some x → Seat w' s x ∧ (∀ b, x.In b → w4.heap.size ≤ b) ∧ x.S.c.n = 0) ?_ ?_
  · (repeat refine zg ?_)
    refine o_loadA (vs := shC s pad cap) rfl (fun j v hv => by rw [Nat.zero_add]; exact hS5.cell hv) rfl rfl rfl rfl rfl rfl ?_
    refine o_call (rNew23_ret (hr.kp k05 (by simp)) hpl) rfl rfl rfl ?_
    rintro v w6 (⟨hsb, rfl, k6⟩ | ⟨hsb, g, rfl, hg6, k6, hn6⟩)
    · rw [hsb] at ho1
      cases o1 with
      | some x => cases ho1
      | none =>
        (repeat first|refine zo rfl rfl trivial ?_|refine zn ?_)
        exact ⟨none, rfl, k6, fun x hx => by cases hx⟩
    · rw [hsb] at ho1
      cases o1 with
      | none => cases ho1
      | some x =>
        obtain ⟨hk, hkn⟩ := hK5 x rfl
        have klt : ∀ b, x.k.In b → b < w5.heap.size := fun b ⟨i, hb⟩ => hk.at_.lt i b hb
        have kf := (hT.kp k04 (by simp)).lt
        (repeat first|refine zo rfl rfl trivial ?_|refine zn ?_)
        refine ⟨some ⟨x.k, g, newLS s, []⟩, rfl, k6, fun y hy => ?_⟩
        cases hy
        refine ⟨⟨⟨hk.kp0 k6, ?_, hg6, RIn.start s, ?_⟩, fun b hb hb2 => ?_, fun b hb hb2 => ?_, fun ht => ?_⟩, fun b hb => ?_, rfl⟩
        · intro v hv
          have := List.eq_of_mem_replicate hv
          subst this
          exact .inl rfl
        · show (0 : Nat) ≤ _; omega
        · have := klt b hb.1; have := hn6 b hb2; omega
        · have := klt b hb2; have := hn6 b (K23.WrIn hb); omega
        · rcases ht with ht | ht
          · have := hkn _ ht.1; have := k04.size; omega
          · have := hn6 _ (K23.WrIn ht); have := k04.size; omega
        · rcases hb with hb | hb
          · exact hkn b hb
          · have := hn6 b hb; omega
  rintro o e w6 ⟨k6, hO⟩
  have k46 := k5.trans k6
  have k06 := k04.trans k46
  have hS6 := k6.blk (by simp) hS5
  have hT6 := k6.blk (by simp) hT5'
  have hP6 := hP4.kp k46 (by simp)
  have hcap6 := hP4.le_cap
  obtain ⟨xb, xf, rfl, hxb, hxc⟩ := hP6.readN.at_ (by simp)
  have hP6r : ReadS w6 (some ⟨xb, xf, none⟩) (s.pa.map I) := hP4r.kp k46 (by simp)
  have hr6 := hr.kp k06 (by simp)
  refine r_seq ?_
  refine r_seq ?_
  refine r_cut (α := Unit) [1, 2, 5, 6, 8, 77] (fun _ => [.slice sad script.length scap, ptr b2, ptr b5, kV o, rV o, .bool false]) (fun _ w' => Kp [] w6 w') ?_ ?_
  · cases o with
    | none =>
      simp only [Option.isSome_some, Option.isSome_none, if_true, if_false, Bool.false_eq_true, reduceIte]
      refine r_mix (fun w' => Kp [] w6 w') ((0, false) :: (2, false) :: (1, true) :: (3, false) :: (4, false) :: (5, false) :: (6, false) :: (7, false) :: (8, false) :: (9, false) :: (10, false) :: (11, false) :: (12, false) :: (13, false) :: (14, false) :: (15, false) :: (16, true) :: (17, false) :: (18, false) :: (19, false) :: (20, false) :: (21, false) :: (22, false) :: (23, false) :: (24, false) :: (25, false) :: (26, false) :: (27, false) :: (28, false) :: (29, false) :: (30, false) :: (31, false) :: (32, false) :: (33, false) :: []) follows_mixed (by kernel_rfl) (by kernel_rfl) (by kernel_rfl) ((Sm.drew _).kp _) ?_
      have kd := (Sm.drew w6).kp []
      generalize ({ w6 with drawn := w6.drawn + 1 } : World) = wd at kd ⊢
      (repeat refine xo rfl rfl trivial ?_)
      refine x_act rfl ?_
      refine o_call (num23_ret _) rfl rfl rfl ?_
      rintro v wn ⟨rfl, rfl⟩
      refine o_nil ⟨.inr kd, ?_⟩
      (repeat first|refine xo rfl rfl trivial ?_|refine x_know rfl _ _ (some false) rfl rfl rfl ?_)
      refine x_load (v := .slice (some ⟨xb, xf, none⟩) s.pa.length xcap) rfl rfl (fun w' h' => (h'.blk (by simp) hT6).cell rfl) rfl rfl rfl rfl ?_
      (repeat refine xo rfl rfl trivial ?_)
      refine x_load (v := .slice pad s.pa.length cap) rfl rfl (fun w' h' => (h'.blk (by simp) hS6).cell rfl) rfl rfl rfl rfl ?_
      refine x_act rfl ?_
      refine o_call (same23_yes (hP6r.kp kd (by simp)) (hr6.kp kd (by simp)) rfl rfl (by omega)) rfl rfl rfl ?_
      rintro v w7 ⟨rfl, s7⟩
      have k7 := kd.trans (s7.kp [])
      refine o_nil ⟨.inr k7, ?_⟩
      (repeat first|refine xo rfl rfl trivial ?_|refine x_know rfl _ _ (some false) rfl rfl rfl ?_)
      refine x_load (v := .slice (some ⟨xb, xf, none⟩) s.pa.length xcap) rfl rfl (fun w' h' => (h'.blk (by simp) hT6).cell rfl) rfl rfl rfl rfl ?_
      (repeat refine xo rfl rfl trivial ?_)
      refine x_load (v := .slice pad s.pa.length cap) rfl rfl (fun w' h' => (h'.blk (by simp) hS6).cell rfl) rfl rfl rfl rfl ?_
      (repeat refine xo rfl rfl (by first|exact trivial|(simp only[AllP];omega)) ?_)
      refine x_load (v := .slice pad s.pa.length cap) rfl rfl (fun w' h' => (h'.blk (by simp) hS6).cell rfl) rfl rfl rfl rfl ?_
      (repeat refine xo rfl rfl (by first|exact trivial|(simp only[AllP];omega)) ?_)
      refine x_load (b := xb) (off := xf + s.pa.length) (v := I 77) rfl rfl (fun w' h' => (World.cell?_of_block (h'.at_ xb hxb (by simp))).trans (hxc _ _ (by rw [List.getElem?_append_right (by simp)]; simp))) rfl rfl rfl rfl ?_
      (repeat first|refine xo rfl rfl trivial ?_|refine xn ?_)
      exact ⟨(), rfl, k7⟩
    | some x =>
      simp only [Option.isSome_some, Option.isSome_none, if_true, if_false, Bool.false_eq_true, reduceIte]
      refine r_mix (fun w' => Kp [] w6 w') ((0, false) :: (2, false) :: (1, true) :: (3, false) :: (4, false) :: (5, false) :: (6, false) :: (7, false) :: (8, false) :: (9, false) :: (10, false) :: (11, false) :: (12, false) :: (13, false) :: (14, false) :: (15, false) :: (16, true) :: (17, false) :: (18, false) :: (19, false) :: (20, false) :: (21, false) :: (22, false) :: (23, false) :: (24, false) :: (25, false) :: (26, false) :: (27, false) :: (28, false) :: (29, false) :: (30, false) :: (31, false) :: (32, false) :: (33, false) :: []) follows_mixed (by kernel_rfl) (by kernel_rfl) (by kernel_rfl) ((Sm.drew _).kp _) ?_
      have kd := (Sm.drew w6).kp []
      generalize ({ w6 with drawn := w6.drawn + 1 } : World) = wd at kd ⊢
      (repeat refine xo rfl rfl trivial ?_)
      refine x_act rfl ?_
      refine o_call (num23_ret _) rfl rfl rfl ?_
      rintro v wn ⟨rfl, rfl⟩
      refine o_nil ⟨.inr kd, ?_⟩
      (repeat first|refine xo rfl rfl trivial ?_|refine x_know rfl _ _ (some false) rfl rfl rfl ?_)
      refine x_load (v := .slice (some ⟨xb, xf, none⟩) s.pa.length xcap) rfl rfl (fun w' h' => (h'.blk (by simp) hT6).cell rfl) rfl rfl rfl rfl ?_
      (repeat refine xo rfl rfl trivial ?_)
      refine x_load (v := .slice pad s.pa.length cap) rfl rfl (fun w' h' => (h'.blk (by simp) hS6).cell rfl) rfl rfl rfl rfl ?_
      refine x_act rfl ?_
      refine o_call (same23_yes (hP6r.kp kd (by simp)) (hr6.kp kd (by simp)) rfl rfl (by omega)) rfl rfl rfl ?_
      rintro v w7 ⟨rfl, s7⟩
      have k7 := kd.trans (s7.kp [])
      refine o_nil ⟨.inr k7, ?_⟩
      (repeat first|refine xo rfl rfl trivial ?_|refine x_know rfl _ _ (some false) rfl rfl rfl ?_)
      refine x_load (v := .slice (some ⟨xb, xf, none⟩) s.pa.length xcap) rfl rfl (fun w' h' => (h'.blk (by simp) hT6).cell rfl) rfl rfl rfl rfl ?_
      (repeat refine xo rfl rfl trivial ?_)
      refine x_load (v := .slice pad s.pa.length cap) rfl rfl (fun w' h' => (h'.blk (by simp) hS6).cell rfl) rfl rfl rfl rfl ?_
      (repeat refine xo rfl rfl (by first|exact trivial|(simp only[AllP];omega)) ?_)
      refine x_load (v := .slice pad s.pa.length cap) rfl rfl (fun w' h' => (h'.blk (by simp) hS6).cell rfl) rfl rfl rfl rfl ?_
      (repeat refine xo rfl rfl (by first|exact trivial|(simp only[AllP];omega)) ?_)
      refine x_load (b := xb) (off := xf + s.pa.length) (v := I 77) rfl rfl (fun w' h' => (World.cell?_of_block (h'.at_ xb hxb (by simp))).trans (hxc _ _ (by rw [List.getElem?_append_right (by simp)]; simp))) rfl rfl rfl rfl ?_
      (repeat first|refine xo rfl rfl trivial ?_|refine xn ?_)
      exact ⟨(), rfl, k7⟩
  rintro _ e w7 k7
  have hP7 := hP6.kp k7 (by simp)
  have hT7 := k7.blk (by simp) hT6
  have y6 := k46.size
  have y7 := k7.size
  have hxn : w3.heap.size ≤ xb := hx4 xb (by simp [blkOf])
  have nb5 : b5 ≠ xb := by omega
  (repeat first|refine zA ?_|refine zB ?_|refine zg ?_|refine zo rfl rfl trivial ?_|refine zn ?_|refine zb ?_|refine zk ?_|refine zf rfl ?_)
  refine r_loop (α := Nat) [1, 2, 5, 6, 8, 10] (fun i => [.slice sad script.length scap, ptr b2, ptr b5, kV o, rV o, I i]) (fun i W => i ≤ s.pa.length ∧ Kp [xb] w7 W ∧ ∃ xs : List Int, xs.length = s.pa.length + 1 ∧ OwnS W 3 1 (some ⟨xb, xf, none⟩) (s.pa.length + 1) xcap (xs.flatMap fI)) (fun i => s.pa.length - i) 0 rfl ⟨by omega, Kp.refl _ _, s.pa ++ [77], by simp, by rw [List.flatMap_append, ← List.map_eq_flatMap]; exact hP7⟩ ?_
  rintro i e W ⟨hi, kW, xs, hxl, hO1⟩
  have hTW := kW.blk (by simpa using nb5) hT7
  (repeat first|refine zA ?_|refine zB ?_|refine zg ?_|refine zo rfl rfl trivial ?_)
  refine o_load (v := .slice (some ⟨xb, xf, none⟩) s.pa.length xcap) rfl hTW rfl rfl rfl rfl rfl ?_
  (repeat first|refine zo rfl rfl trivial ?_|refine zn ?_)
  refine r_if rfl (fun hc => ?_) (fun hc => ?_)
  · obtain ⟨x, hx⟩ : ∃ x, xs[i]? = some x := ⟨_, List.getElem?_eq_getElem (by omega)⟩
    obtain ⟨b, L, he, hBL, hiL, hwr⟩ := OwnS.recB (f := fI) hO1 hxl (fun _ => rfl) (by decide) hx 0 (I 1) 1 (by decide) rfl
    simp only [Option.some.injEq, Addr.mk.injEq] at he
    obtain ⟨rfl, rfl, _⟩ := he
    (repeat first|refine zC ?_|refine zg ?_|refine zo rfl rfl trivial ?_|refine zb ?_|refine zk ?_)
    refine o_load (v := .slice (some ⟨xb, 0, none⟩) s.pa.length xcap) rfl hTW rfl rfl rfl rfl rfl ?_
    (repeat refine zo rfl rfl (by first|exact trivial|(simp only[AllP];omega)) ?_)
    refine o_store (b := xb) (off := i * 1 + 0) (v := I 1) (c := none) (by simp only [Int.toNat_natCast, Nat.zero_add, Nat.add_zero, Nat.mul_one]; rfl) hBL hiL rfl rfl rfl rfl rfl rfl ?_
    intro W2 hu
    (repeat first|refine zg ?_|refine zo rfl rfl (by first|exact trivial|(simp only[AllP];omega)) ?_|refine zn ?_)
    exact ⟨i + 1, rfl, ⟨by omega, kW.trans (hu.kp _ (.inl (by simp))), xs.set i 1, by simp [hxl], hwr W2 hu⟩, by omega⟩
  have k0W : Kp [] w W := (k06.trans k7).since kW (by simp; omega)
  clear hxl hO1 hc hi
  have hO7 : ∀ x, o = some x → Seat W s x := fun x hx => by
    obtain ⟨q1, q2, _⟩ := hO x hx
    refine (q1.kp0 k7).kq (kW.kq (Q := fun b => b = xb) (fun b hb => by simpa using hb)) (fun b hb hi => ?_) (fun ht => ?_)
    · have := q2 b hi; have := hP4.lt xb (by simp [blkOf]); omega
    · have := hT.lt; have := k03.size; omega
  have yW := kW.size
  (repeat first|refine zA ?_|refine zg ?_|refine zo rfl rfl trivial ?_|refine ze rfl ?_)
  refine o_buildA [kV o, .pointer none] rfl rfl rfl rfl rfl rfl rfl ?_
  refine o_alloc rfl rfl rfl rfl ?_
  intro b11 v1 hb11 hv1
  refine o_storeA (cs := [kV o, .pointer none]) rfl hv1.blk (Nat.le_refl _) rfl (by simp [Value.oneCell']) rfl rfl rfl rfl ?_
  intro v2 hv2
  have q2 : Kp [] W v2 := (hv1.kp [] (.inr (by omega))).since (hv2.kp [b11] (.inl (by simp))) (by simp; omega)
  have hA1 : Blk v2 b11 [kV o, .pointer none] 53 := hv2.blk
  have l11 := hA1.lt
  (repeat first|refine zA ?_|refine zg ?_|refine zo rfl rfl trivial ?_|refine zn ?_)
  refine o_buildA [rV o, .pointer none] rfl rfl rfl rfl rfl rfl rfl ?_
  refine o_alloc rfl rfl rfl rfl ?_
  intro b12 v3 hb12 hv3
  refine o_storeA (cs := [rV o, .pointer none]) rfl hv3.blk (Nat.le_refl _) rfl (by simp [Value.oneCell']) rfl rfl rfl rfl ?_
  intro v4 hv4
  have q4 : Kp [] v2 v4 := (hv3.kp [] (.inr (by omega))).since (hv4.kp [b12] (.inl (by simp))) (by simp; omega)
  have hA2 : Blk v4 b12 [rV o, .pointer none] 54 := hv4.blk
  have hset : ∀ j x, setO (fun _ => none) 0 o j = some x → j = 0 ∧ o = some x := fun j x hx => by
    unfold setO at hx
    by_cases c : j = 0
    · rw [if_pos c] at hx; exact ⟨c, hx⟩
    · rw [if_neg c] at hx; cases hx
  have l12 := hA2.lt
  have z24 := q2.size
  have hSI : SI w v4 s b11 b12 (setO (fun _ => none) 0 o) 0 := by
    refine ⟨fun j x hx => (hO7 x (hset j x hx).2).kp0 (q2.trans q4), fun a b x y hab hx hy => absurd ((hset a x hx).1.trans (hset b y hy).1.symm) hab, fun j x hx => ⟨fun b hb => ?_, ?_⟩, q4.blk (by simp) hA1, hA2, by omega, by omega, by omega, k0W.trans (q2.trans q4), hT.kp (k0W.trans (q2.trans q4)) (by simp), hT.lt⟩
    · obtain ⟨_, e⟩ := hset j x hx
      have := (hO x e).2.1 b hb
      have := (hO7 x e).lt b hb
      exact ⟨by omega, by omega, by omega⟩
    · obtain ⟨_, e⟩ := hset j x hx
      have := (hO x e).2.2
      omega
  (repeat first|refine zA ?_|refine zB ?_|refine zg ?_|refine zo rfl rfl trivial ?_|refine zn ?_|refine zb ?_)
  refine r_loop (α := Nat × (Nat → Option PG)) [1, 11, 12, 13] (fun x => [.slice sad script.length scap, ptr b11, ptr b12, I x.1]) (fun x W => x.1 ≤ script.length ∧ SI w W s b11 b12 x.2 (x.1 * 1048577) ∧ ∀ j y, x.2 j = some y → j < 2) (fun x => script.length - x.1) (0, setO (fun _ => none) 0 o) rfl ⟨by omega, by simpa using hSI, fun j y hy => by have := (hset j y hy).1; omega⟩ ?_
  rintro ⟨i, os⟩ e W1 ⟨hi, hI, h3⟩
  dsimp only at hi hI h3
  (repeat first|refine zA ?_|refine zB ?_|refine zg ?_|refine zo rfl rfl trivial ?_|refine zn ?_)
  refine r_if rfl (fun hc => ?_) (fun hc => ?_)
  · have hlt : i < script.length := by omega
    obtain ⟨a, hax⟩ : ∃ a, script[i]? = some a := ⟨_, List.getElem?_eq_getElem hlt⟩
    have hok := ha a (List.mem_of_getElem? hax)
    obtain ⟨sb, so, rfl, hsb, hscell⟩ := hs.at_ (by rw [flC_len (f := askC) (m := 7) (fun _ => rfl)]; omega)
    (repeat first|refine zA ?_|refine zC ?_|refine zg ?_|refine zo rfl rfl (by first|exact trivial|(simp only[AllP];omega)) ?_|refine zb ?_|refine zk ?_)
    refine o_loadA (b := sb) (off := so + i * 7) (vs := askC a) rfl (fun j v hv => by rw [Nat.add_assoc, ← hscell _ v (flC_get (f := askC) (m := 7) (fun _ => rfl) hax hv)]; exact World.cell?_of_block (hI.kp.at_ sb hsb (by simp))) rfl rfl rfl rfl rfl rfl ?_
    refine o_alloc rfl rfl rfl rfl ?_
    intro b14 v5 hb14 hv5
    refine o_storeA (cs := askC a) rfl hv5.blk (Nat.le_refl _) rfl (by simp [Value.oneCell']) rfl rfl rfl rfl ?_
    intro v6 hv6
    have q6 : Kp [] W1 v6 := (hv5.kp [] (.inr (by omega))).since (hv6.kp [b14] (.inl (by simp))) (by simp; omega)
    have hA6 : Blk v6 b14 (askC a) 57 := hv6.blk
    have hI6 := hI.kp0 q6
    have hF : Fl3 os a b11 b12 b14 v6 := ⟨hI6.a1, hI6.a2, hA6⟩
    have hn14 : ∀ j x, os j = some x → ∀ b, x.In b → b ≠ b14 := fun j x hx b hb e => by
      have := (hI.seat j x hx).lt b hb
      omega
    have hw11 : ∀ j x, os j = some x → ¬ x.In b11 := fun j x hx hb => ((hI.nw j x hx).1 _ hb).2.1 rfl
    have hw12 : ∀ j x, os j = some x → ¬ x.In b12 := fun j x hx hb => ((hI.nw j x hx).1 _ hb).2.2 rfl
    have hle : i * 1048577 ≤ (i + 1) * 1048577 := Nat.mul_le_mul_right 1048577 (Nat.le_succ i)
    have hi41 : (i + 1) * 1048577 ≤ 2199023255552 := Nat.le_trans (Nat.mul_le_mul_right 1048577 (show i + 1 ≤ 1048576 by omega)) (Nat.le_of_ble_eq_true rfl)
    obtain ⟨k, hk, hk2⟩ := and1x a.on
    (repeat first|refine zA ?_|refine zg ?_|refine zo rfl rfl trivial ?_|refine zn ?_)
    refine o_load (v := I a.on) rfl hA6 rfl rfl rfl rfl rfl ?_
    (repeat first|refine zA ?_|refine zg ?_|refine zo rfl rfl trivial ?_|refine zn ?_)
    rw [hk]
    refine o_load (v := I a.do_) rfl hA6 rfl rfl rfl rfl rfl ?_
    (repeat first|refine zA ?_|refine zg ?_|refine zo rfl rfl trivial ?_|refine zn ?_|refine zb ?_)
    refine r_if (p := a.do_ = 0) rfl (fun h0 => ?_) (fun h0 => ?_)
    · refine r_seq ?_
      refine r_mix (Fl3 os a b11 b12 b14) [(0, false), (1, false), (2, false), (3, false), (4, false), (7, false), (8, false), (9, false), (10, false), (11, false), (5, true), (6, true), (12, true), (13, false)] follows_mixed (by kernel_rfl) (by kernel_rfl) (by kernel_rfl) ((hF.kp0 ((Sm.drew _).kp []))) ?_
      have kd := (Sm.drew v6).kp []
      generalize ({ v6 with drawn := v6.drawn + 1 } : World) = vd at kd ⊢
      have hId := hI6.kp0 kd
      have hFd := hF.kp0 kd
      cases hok' : os k with
      | none =>
        (repeat refine xo rfl rfl (by first|exact trivial|(simp only[AllP];omega)) ?_)
        refine x_load (b := b11) (off := k) (v := .pointer none) rfl (by show Value.pointer (some ⟨b11, 0 + k, none⟩) = _; rw [Nat.zero_add]) (fun w' h' => (h'.g1 hk2).trans (by rw [hok']; rfl)) rfl rfl rfl rfl ?_
        (repeat refine xo rfl rfl trivial ?_)
        refine x_loadA (b := b14) (off := 3) (vs := evC a.ev) rfl rfl (fun w' h' => h'.ev) rfl rfl rfl rfl rfl rfl ?_
        (repeat refine xo rfl rfl (by first|exact trivial|(simp only[AllP];omega)) ?_)
        refine x_load (b := b12) (off := k) (v := .pointer none) rfl (by show Value.pointer (some ⟨b12, 0 + k, none⟩) = _; rw [Nat.zero_add]) (fun w' h' => (h'.g2 hk2).trans (by rw [hok']; rfl)) rfl rfl rfl rfl ?_
        (repeat refine xo rfl rfl trivial ?_)
        refine x_loadA (b := b14) (off := 3) (vs := evC a.ev) rfl rfl (fun w' h' => h'.ev) rfl rfl rfl rfl rfl rfl ?_
        refine x_act rfl ?_
        refine o_call (Event_abs (.inl rfl) a.ev) rfl rfl rfl ?_
        rintro v u1 ⟨rfl, j1⟩
        refine o_nil ⟨.inr (hFd.kp0 j1), ?_⟩
        refine x_act rfl ?_
        refine o_call (num23_ret _) rfl rfl rfl ?_
        rintro v un ⟨rfl, rfl⟩
        refine o_nil ⟨.inr (hFd.kp0 j1), ?_⟩
        refine x_act rfl ?_
        refine o_call (rEvent_nil a.ev) rfl rfl rfl ?_
        rintro v u2 ⟨rfl, j2⟩
        have hIu := (hId.kp0 j1).kp0 j2
        refine o_nil ⟨.inr ((hFd.kp0 j1).kp0 j2), ?_⟩
        (repeat first|refine xo rfl rfl trivial ?_|refine xn ?_)
        (repeat first|refine zg ?_|refine zo rfl rfl (by first|exact trivial|(simp only[AllP];omega)) ?_|refine zn ?_|refine zk ?_|refine zf rfl ?_)
        exact ⟨(i + 1, os), rfl, ⟨by dsimp only; omega, hIu.later hle, h3⟩, by dsimp only; omega⟩
      | some x =>
        have hxs := hId.seat k x hok'
        have hxn := (hI.nw k x hok').2
        have hxi := hn14 k x hok'
        (repeat refine xo rfl rfl (by first|exact trivial|(simp only[AllP];omega)) ?_)
        refine x_load (b := b11) (off := k) (v := ptr x.k.kp) rfl (by show Value.pointer (some ⟨b11, 0 + k, none⟩) = _; rw [Nat.zero_add]) (fun w' h' => (h'.g1 hk2).trans (by rw [hok']; rfl)) rfl rfl rfl rfl ?_
        (repeat refine xo rfl rfl trivial ?_)
        refine x_loadA (b := b14) (off := 3) (vs := evC a.ev) rfl rfl (fun w' h' => h'.ev) rfl rfl rfl rfl rfl rfl ?_
        (repeat refine xo rfl rfl (by first|exact trivial|(simp only[AllP];omega)) ?_)
        refine x_load (b := b12) (off := k) (v := ptr x.r.p) rfl (by show Value.pointer (some ⟨b12, 0 + k, none⟩) = _; rw [Nat.zero_add]) (fun w' h' => (h'.g2 hk2).trans (by rw [hok']; rfl)) rfl rfl rfl rfl ?_
        (repeat refine xo rfl rfl trivial ?_)
        refine x_loadA (b := b14) (off := 3) (vs := evC a.ev) rfl rfl (fun w' h' => h'.ev) rfl rfl rfl rfl rfl rfl ?_
        refine x_act rfl ?_
        refine o_call (Event_S hxs.ks hxs.vok (by have := hxs.nn; omega) a.ev) rfl rfl rfl ?_
        rintro v u1 (⟨hcan, rfl, k', hk1, kt⟩ | ⟨hcan, rfl, j1⟩)
        · have hF1 := hFd.kq kt.kw (fun hb => hw11 k x hok' (.inl hb.1)) (fun hb => hw12 k x hok' (.inl hb.1)) (fun hb => hxi _ (.inl hb.1) rfl)
          refine o_nil ⟨.inr hF1, ?_⟩
          refine x_act rfl ?_
          refine o_call (num23_ret _) rfl rfl rfl ?_
          rintro v un ⟨rfl, rfl⟩
          refine o_nil ⟨.inr hF1, ?_⟩
          refine x_act rfl ?_
          refine o_call (rEvent_S (hxs.mid kt) hxs.inn hxs.nn a.ev) rfl rfl rfl ?_
          rintro v u2 (⟨_, rfl, r', hr2, hi2, rt⟩ | ⟨hc2, _, _⟩)
          · have hF2 := hF1.kq rt.kq (fun hb => hw11 k x hok' (.inr (K23.WrIn hb))) (fun hb => hw12 k x hok' (.inr (K23.WrIn hb))) (fun hb => hxi _ (.inr (K23.WrIn hb)) rfl)
            have hnn : (stepL x.S a.ev s).c.n = x.S.c.n + 1 := nextC_n _ _ _
            obtain ⟨hs2, hto⟩ := hxs.step hk1 kt (stepL_ok hxs.vok) hr2 hi2 rt (by omega)
            have hI2 := hId.step hok' hs2 hto kt.kp rt.p (N' := (i + 1) * 1048577) hle (Nat.le_trans (Nat.le_of_eq hnn) (by omega))
            refine o_nil ⟨.inr hF2, ?_⟩
            (repeat first|refine xo rfl rfl trivial ?_|refine xn ?_)
            (repeat first|refine zg ?_|refine zo rfl rfl (by first|exact trivial|(simp only[AllP];omega)) ?_|refine zn ?_|refine zk ?_|refine zf rfl ?_)
            exact ⟨(i + 1, setO os k (some ⟨k', r', stepL x.S a.ev s, stepA x.S x.A a.ev⟩)), rfl, ⟨by dsimp only; omega, hI2, fun j y hy => setO_lt h3 hk2 hy⟩, by dsimp only; omega⟩
          · rw [hcan] at hc2; cases hc2
        · refine o_nil ⟨.inr (hFd.kp0 j1), ?_⟩
          refine x_act rfl ?_
          refine o_call (num23_ret _) rfl rfl rfl ?_
          rintro v un ⟨rfl, rfl⟩
          refine o_nil ⟨.inr (hFd.kp0 j1), ?_⟩
          refine x_act rfl ?_
          refine o_call (rEvent_S (hxs.rs.kp0 j1) hxs.inn hxs.nn a.ev) rfl rfl rfl ?_
          rintro v u2 (⟨hc2, _⟩ | ⟨_, rfl, j2⟩)
          · rw [hcan] at hc2; cases hc2
          · refine o_nil ⟨.inr ((hFd.kp0 j1).kp0 j2), ?_⟩
            (repeat first|refine xo rfl rfl trivial ?_|refine xn ?_)
            (repeat first|refine zg ?_|refine zo rfl rfl (by first|exact trivial|(simp only[AllP];omega)) ?_|refine zn ?_|refine zk ?_|refine zf rfl ?_)
            exact ⟨(i + 1, os), rfl, ⟨by dsimp only; omega, ((hId.kp0 j1).kp0 j2).later hle, h3⟩, by dsimp only; omega⟩
    (repeat first|refine zA ?_|refine zg ?_|refine zo rfl rfl trivial ?_|refine zn ?_)
    refine r_if (p := a.do_ = 1) rfl (fun h1 => ?_) (fun h1 => ?_)
    · (repeat first|refine zA ?_|refine zg ?_|refine zo rfl rfl trivial ?_)
      refine o_load (v := .slice a.lad a.l.length a.lcap) rfl hA6 rfl rfl rfl rfl rfl ?_
      have hrl := hok.1.kp hI6.kp (by simp)
      have hll := hok.2.1
      refine o_cloneR (evsC a.l) rfl rfl hrl (evsC_len _) (by simp only [evsC]; intro v hv; obtain ⟨x, _, hx⟩ := List.mem_flatMap.1 hv; simp [evC] at hx; rcases hx with rfl | rfl | rfl <;> rfl) rfl rfl rfl (by omega) (by simp only [maxLen]; omega) (by omega) rfl rfl ?_
      intro lad lcap v7 ho7 k7 hn7
      refine o_build (evC ⟨0, 0, 77⟩) rfl rfl rfl rfl rfl rfl rfl ?_
      refine o_buildSliceN (evC ⟨0, 0, 77⟩) rfl rfl rfl (by kernel_rfl) rfl rfl rfl rfl ?_
      intro bm v8 hbm hu8
      have k8 : Kp [] v7 v8 := hu8.kp [] (.inr (by omega))
      refine o_append (evC ⟨0, 0, 77⟩) rfl rfl (ho7.kp k8 (by simp)) (fun j v hv => by rw [addr_lit, Nat.zero_add]; exact hu8.blk.cell hv) rfl rfl rfl (by omega) rfl (by omega) (by simp [Value.oneCell']) (by simp only [maxLen]; omega) (by omega) rfl rfl ?_
      intro xe xec v9 ho9 k9 hn9
      have y7 := k7.size
      have y8 := k8.size
      have hxe : ∀ b, b ∈ blkOf xe → v6.heap.size ≤ b := fun b hb => by
        rcases hn9 b hb with q | q
        · exact hn7 b q
        · omega
      have k69 : Kp [] v6 v9 := (k7.trans k8).since k9 hn7
      have hI9 := hI6.kp0 k69
      have hF9 := hF.kp0 k69
      obtain ⟨xb, rfl, _⟩ := ho9.tail (by simp)
      have hxb : v6.heap.size ≤ xb := hxe xb (by simp [blkOf])
      have hxn : ∀ j x, os j = some x → ¬ x.In xb := fun j x hx hb => by
        have := (hI6.seat j x hx).lt xb hb
        omega
      have hcap9 := ho9.le_cap
      have hre : ReadS v9 (some ⟨xb, 0, none⟩) (evsC a.l) := by
        have := ho9.readN.take (evsC a.l).length
        simpa using this
      have hfin : ∀ v10, OwnS v10 35 3 (some ⟨xb, 0, none⟩) (a.l.length + 1) xec (evsC a.l ++ evC ⟨0, 0, 77⟩) → v10.cell? ⟨xb, a.l.length * 3 + 2, none⟩ = some (I 77) := fun v10 h10 => by
        obtain ⟨b', e', hc'⟩ := h10.tail (by simp)
        cases e'
        have := hc' 2 _ rfl
        rwa [evsC_len] at this
      (repeat first|refine zo rfl rfl trivial ?_|refine zn ?_)
      refine r_seq ?_
      refine r_mix (Fl3 os a b11 b12 b14) [(0, false), (1, false), (2, false), (3, false), (4, false), (5, false), (6, false), (7, false), (8, true), (9, false), (10, false), (11, false), (12, false), (13, false)] follows_mixed (by kernel_rfl) (by kernel_rfl) (by kernel_rfl) ((hF9.kp0 ((Sm.drew _).kp []))) ?_
      have kd := (Sm.drew v9).kp []
      generalize ({ v9 with drawn := v9.drawn + 1 } : World) = vd at kd ⊢
      have hId := hI9.kp0 kd
      have hFd := hF9.kp0 kd
      have hod := ho9.kp kd (by simp)
      have hred := hre.kp kd (by simp)
      cases hok' : os k with
      | none =>
        (repeat refine xo rfl rfl (by first|exact trivial|(simp only[AllP];omega)) ?_)
        refine x_load (b := b11) (off := k) (v := .pointer none) rfl (by show Value.pointer (some ⟨b11, 0 + k, none⟩) = _; rw [Nat.zero_add]) (fun w' h' => (h'.g1 hk2).trans (by rw [hok']; rfl)) rfl rfl rfl rfl ?_
        (repeat refine xo rfl rfl trivial ?_)
        refine x_load (b := b14) (off := 6) (v := .slice a.lad a.l.length a.lcap) rfl rfl (fun w' h' => h'.a3.cell rfl) rfl rfl rfl rfl ?_
        (repeat refine xo rfl rfl (by first|exact trivial|(simp only[AllP];omega)) ?_)
        refine x_act rfl ?_
        refine o_call (Events_abs (.inl rfl)) rfl rfl rfl ?_
        rintro v u1 ⟨rfl, rfl⟩
        refine o_nil ⟨.inr hFd, ?_⟩
        (repeat first|refine xo rfl rfl trivial ?_|refine xn ?_)
        refine r_seq ?_
        refine r_mix (Fl3 os a b11 b12 b14) [(0, false), (1, false), (2, false), (3, false), (4, false), (5, true), (6, false), (7, false), (8, false), (9, false), (10, false)] follows_mixed (by kernel_rfl) (by kernel_rfl) (by kernel_rfl) ((hFd.kp0 ((Sm.drew _).kp []))) ?_
        have kd2 := (Sm.drew u1).kp []
        generalize ({ u1 with drawn := u1.drawn + 1 } : World) = ve at kd2 ⊢
        have hFe := hFd.kp0 kd2
        (repeat refine xo rfl rfl (by first|exact trivial|(simp only[AllP];omega)) ?_)
        refine x_load (b := b12) (off := k) (v := .pointer none) rfl (by show Value.pointer (some ⟨b12, 0 + k, none⟩) = _; rw [Nat.zero_add]) (fun w' h' => (h'.g2 hk2).trans (by rw [hok']; rfl)) rfl rfl rfl rfl ?_
        (repeat refine xo rfl rfl trivial ?_)
        refine x_load (b := b14) (off := 6) (v := .slice a.lad a.l.length a.lcap) rfl rfl (fun w' h' => h'.a3.cell rfl) rfl rfl rfl rfl ?_
        refine x_act rfl ?_
        refine o_call rEvents_nil rfl rfl rfl ?_
        rintro v u2 ⟨rfl, rfl⟩
        refine o_nil ⟨.inr hFe, ?_⟩
        (repeat first|refine xo rfl rfl trivial ?_|refine xn ?_)
        (repeat first|refine zA ?_|refine zg ?_|refine zo rfl rfl trivial ?_|refine zU rfl rfl rfl ?_)
        refine o_call (num23_ret _) rfl rfl rfl ?_
        rintro v un ⟨rfl, rfl⟩
        (repeat first|refine zo rfl rfl trivial ?_|refine zU rfl rfl rfl ?_)
        refine o_load (v := .slice a.lad a.l.length a.lcap) rfl hFe.a3 rfl rfl rfl rfl rfl ?_
        (repeat refine zo rfl rfl (by first|exact trivial|(simp only[AllP];omega)) ?_)
        refine o_loadc (b := xb) (off := a.l.length * 3 + 2) (v := I 77) (by show Value.pointer (some ⟨xb, 0 + a.l.length * 3 + 2, none⟩) = _; rw [Nat.zero_add]) (hfin _ (hod.kp kd2 (by simp))) rfl rfl rfl rfl ?_
        (repeat first|refine zg ?_|refine zo rfl rfl (by first|exact trivial|(simp only[AllP];omega)) ?_|refine zn ?_|refine zk ?_|refine zf rfl ?_)
        exact ⟨(i + 1, os), rfl, ⟨by dsimp only; omega, (hId.kp0 kd2).later hle, h3⟩, by dsimp only; omega⟩
      | some x =>
        have hxs := hId.seat k x hok'
        have hxw := (hId.nw k x hok').1
        have hxm := (hI.nw k x hok').2
        have hxi := hn14 k x hok'
        (repeat refine xo rfl rfl (by first|exact trivial|(simp only[AllP];omega)) ?_)
        refine x_load (b := b11) (off := k) (v := ptr x.k.kp) rfl (by show Value.pointer (some ⟨b11, 0 + k, none⟩) = _; rw [Nat.zero_add]) (fun w' h' => (h'.g1 hk2).trans (by rw [hok']; rfl)) rfl rfl rfl rfl ?_
        (repeat refine xo rfl rfl trivial ?_)
        refine x_load (b := b14) (off := 6) (v := .slice a.lad a.l.length a.lcap) rfl rfl (fun w' h' => h'.a3.cell rfl) rfl rfl rfl rfl ?_
        (repeat refine xo rfl rfl (by first|exact trivial|(simp only[AllP];omega)) ?_)
        refine x_act rfl ?_
        refine o_call (Events_S hxs.ks hxs.vok (by have := hxs.nn; omega) hred (fun b hb => by simp [blkOf] at hb; subst hb; exact fun q => hxn k x hok' (.inl q)) hll) rfl rfl rfl ?_
        rintro v u1 ⟨m1, k', hm1, rfl, hk1, kt, hc1, hs1⟩
        have hF1 := hFd.kq kt.kw (fun hb => hw11 k x hok' (.inl hb.1)) (fun hb => hw12 k x hok' (.inl hb.1)) (fun hb => hxi _ (.inl hb.1) rfl)
        have ho1 := hod.kq kt.kw (fun b hb hb2 => by simp [blkOf] at hb; subst hb; exact hxn k x hok' (.inl hb2.1))
        refine o_nil ⟨.inr hF1, ?_⟩
        (repeat first|refine xo rfl rfl trivial ?_|refine xn ?_)
        refine r_seq ?_
        refine r_mix (Fl3 os a b11 b12 b14) [(0, false), (1, false), (2, false), (3, false), (4, false), (5, true), (6, false), (7, false), (8, false), (9, false), (10, false)] follows_mixed (by kernel_rfl) (by kernel_rfl) (by kernel_rfl) ((hF1.kp0 ((Sm.drew _).kp []))) ?_
        have kd2 := (Sm.drew u1).kp []
        generalize ({ u1 with drawn := u1.drawn + 1 } : World) = ve at kd2 ⊢
        have hFe := hF1.kp0 kd2
        have hrl3 : ReadS ve a.lad (evsC a.l) := ((hrl.kp (k69.trans kd) (by simp)).kqL kt.kw (fun hpos b hb hb2 => by
          obtain ⟨b', o', e', hb', _⟩ := hok.1.at_ hpos
          rw [e'] at hb
          simp [blkOf] at hb
          subst hb
          have := (hxw _ (.inl hb2.1)).1
          omega)).kp kd2 (by simp)
        (repeat refine xo rfl rfl (by first|exact trivial|(simp only[AllP];omega)) ?_)
        refine x_load (b := b12) (off := k) (v := ptr x.r.p) rfl (by show Value.pointer (some ⟨b12, 0 + k, none⟩) = _; rw [Nat.zero_add]) (fun w' h' => (h'.g2 hk2).trans (by rw [hok']; rfl)) rfl rfl rfl rfl ?_
        (repeat refine xo rfl rfl trivial ?_)
        refine x_load (b := b14) (off := 6) (v := .slice a.lad a.l.length a.lcap) rfl rfl (fun w' h' => h'.a3.cell rfl) rfl rfl rfl rfl ?_
        refine x_act rfl ?_
        refine o_call (rEvents_S ((hxs.mid kt).kp0 kd2) hxs.inn (by omega) hrl3 (fun hpos b hb hb2 => by
          obtain ⟨b', o', e', hb', _⟩ := hok.1.at_ (by rw [evsC_len]; omega)
          rw [e'] at hb
          simp [blkOf] at hb
          subst hb
          have := (hxw _ (.inr (K23.WrIn hb2))).1
          omega)) rfl rfl rfl ?_
        rintro v u2 ⟨m2, r', hm2, rfl, hr2, hi2, rt, hc2, hs2⟩
        have em := stop_same hc1 hs1 hm1 hc2 hs2 hm2
        subst em
        have hF2 := hFe.kq rt.kq (fun hb => hw11 k x hok' (.inr (K23.WrIn hb))) (fun hb => hw12 k x hok' (.inr (K23.WrIn hb))) (fun hb => hxi _ (.inr (K23.WrIn hb)) rfl)
        have ho2 := (ho1.kp kd2 (by simp)).kq rt.kq (fun b hb hb2 => by simp [blkOf] at hb; subst hb; exact hxn k x hok' (.inr (K23.WrIn hb2)))
        have hnn := runN_n (s := s) (S := x.S) (l := a.l) m1 hm1
        have rt1 : KTo23 u1 x.r u2 r' := ⟨Kq.trans (kd2.kq (by simp)) rt.kq (fun b hb => .inl hb), fun b hb => (rt.new b hb).imp id (fun q => by have := kd2.size; omega), fun b hb => (rt.wr b hb).imp id (fun q => by have := kd2.size; omega), rt.p⟩
        obtain ⟨hs3, hto⟩ := hxs.step hk1 kt (runN_ok hxs.vok m1 hm1) hr2 hi2 rt1 (by omega)
        have hI2 := hId.step hok' hs3 hto kt.kp rt.p (N' := (i + 1) * 1048577) hle (Nat.le_trans (Nat.le_of_eq hnn) (by omega))
        refine o_nil ⟨.inr hF2, ?_⟩
        (repeat first|refine xo rfl rfl trivial ?_|refine xn ?_)
        (repeat first|refine zA ?_|refine zg ?_|refine zo rfl rfl trivial ?_)
        refine o_is false 3 false rfl rfl rfl (by simp) ?_
        (repeat refine zo rfl rfl trivial ?_)
        refine o_call (num23_ret _) rfl rfl rfl ?_
        rintro v un ⟨rfl, rfl⟩
        (repeat refine zo rfl rfl trivial ?_)
        refine o_is false 9 false rfl rfl rfl (by simp) ?_
        (repeat refine zo rfl rfl trivial ?_)
        refine o_load (v := .slice a.lad a.l.length a.lcap) rfl hF2.a3 rfl rfl rfl rfl rfl ?_
        (repeat refine zo rfl rfl (by first|exact trivial|(simp only[AllP];omega)) ?_)
        refine o_loadc (b := xb) (off := a.l.length * 3 + 2) (v := I 77) (by show Value.pointer (some ⟨xb, 0 + a.l.length * 3 + 2, none⟩) = _; rw [Nat.zero_add]) (hfin _ ho2) rfl rfl rfl rfl ?_
        (repeat first|refine zg ?_|refine zo rfl rfl (by first|exact trivial|(simp only[AllP];omega)) ?_|refine zn ?_|refine zk ?_|refine zf rfl ?_)
        exact ⟨(i + 1, setO os k (some ⟨k', r', runN s x.S a.l m1, runA s x.S x.A a.l m1⟩)), rfl, ⟨by dsimp only; omega, hI2, fun j y hy => setO_lt h3 hk2 hy⟩, by dsimp only; omega⟩
    (repeat first|refine zA ?_|refine zg ?_|refine zo rfl rfl trivial ?_|refine zn ?_)
    refine r_if (p := a.do_ = 2) rfl (fun h2 => ?_) (fun h2 => ?_)
    · refine r_seq ?_
      refine r_mix (Fl3 os a b11 b12 b14) [(0, false), (1, false), (2, false), (3, false), (4, false), (5, false), (6, false), (7, false), (8, true), (9, false), (10, false), (11, false), (12, false), (13, false), (14, false), (15, false), (16, false), (17, false), (18, false), (19, true), (20, false), (21, false)] follows_mixed (by kernel_rfl) (by kernel_rfl) (by kernel_rfl) ((hF.kp0 ((Sm.drew _).kp []))) ?_
      have kd := (Sm.drew v6).kp []
      generalize ({ v6 with drawn := v6.drawn + 1 } : World) = vd at kd ⊢
      have hId := hI6.kp0 kd
      have hFd := hF.kp0 kd
      have hsh := (hId.pok k).short a.n
      (repeat refine xo rfl rfl (by first|exact trivial|(simp only[AllP];omega)) ?_)
      refine x_load (b := b11) (off := k) (v := kV (os k)) rfl (by show Value.pointer (some ⟨b11, 0 + k, none⟩) = _; rw [Nat.zero_add]) (fun w' h' => h'.g1 hk2) rfl rfl rfl rfl ?_
      (repeat refine xo rfl rfl (by first|exact trivial|(simp only[AllP];omega)) ?_)
      refine x_load (b := b12) (off := k) (v := rV (os k)) rfl (by show Value.pointer (some ⟨b12, 0 + k, none⟩) = _; rw [Nat.zero_add]) (fun w' h' => h'.g2 hk2) rfl rfl rfl rfl ?_
      (repeat refine xo rfl rfl trivial ?_)
      refine x_load (b := b14) (off := 2) (v := I a.n) rfl rfl (fun w' h' => h'.a3.cell rfl) rfl rfl rfl rfl ?_
      refine x_act rfl ?_
      refine o_call (told_ret (hId.pok k) a.n ⟨by omega, by omega, by omega⟩) rfl rfl rfl ?_
      rintro v u1 ⟨rfl, j1⟩
      have hF1 := hFd.kp0 j1
      refine o_nil ⟨.inr hF1, ?_⟩
      (repeat first|refine xo rfl rfl (by first|exact trivial|(simp only[AllP];omega)) ?_|refine x_know rfl _ _ (some false) rfl rfl rfl ?_)
      refine x_load (b := b11) (off := k) (v := kV (os k)) rfl (by show Value.pointer (some ⟨b11, 0 + k, none⟩) = _; rw [Nat.zero_add]) (fun w' h' => h'.g1 hk2) rfl rfl rfl rfl ?_
      (repeat refine xo rfl rfl (by first|exact trivial|(simp only[AllP];omega)) ?_)
      refine x_load (b := b12) (off := k) (v := rV (os k)) rfl (by show Value.pointer (some ⟨b12, 0 + k, none⟩) = _; rw [Nat.zero_add]) (fun w' h' => h'.g2 hk2) rfl rfl rfl rfl ?_
      (repeat refine xo rfl rfl trivial ?_)
      refine x_load (b := b14) (off := 2) (v := I a.n) rfl rfl (fun w' h' => h'.a3.cell rfl) rfl rfl rfl rfl ?_
      refine x_act rfl ?_
      refine o_call (lists23_ret ((hId.kp0 j1).pok k) a.n hsh) rfl rfl rfl ?_
      rintro v u2 ⟨rfl, j2⟩
      refine o_nil ⟨.inr (hF1.kp0 j2), ?_⟩
      (repeat first|refine xo rfl rfl trivial ?_|refine xn ?_)
      (repeat first|refine zg ?_|refine zo rfl rfl (by first|exact trivial|(simp only[AllP];omega)) ?_|refine zn ?_|refine zk ?_|refine zf rfl ?_)
      exact ⟨(i + 1, os), rfl, ⟨by dsimp only; omega, ((hId.kp0 j1).kp0 j2).later hle, h3⟩, by dsimp only; omega⟩
    (repeat first|refine zA ?_|refine zg ?_|refine zo rfl rfl trivial ?_|refine zn ?_)
    refine r_if (p := a.do_ = 3) rfl (fun h3' => ?_) (fun h3' => ?_)
    · refine r_seq ?_
      refine r_mix (Fl3 os a b11 b12 b14) [(0, false), (1, false), (2, false), (4, false), (5, false), (6, false), (3, true), (7, true), (8, true), (9, false)] follows_mixed (by kernel_rfl) (by kernel_rfl) (by kernel_rfl) ((hF.kp0 ((Sm.drew _).kp []))) ?_
      have kd := (Sm.drew v6).kp []
      generalize ({ v6 with drawn := v6.drawn + 1 } : World) = vd at kd ⊢
      have hId := hI6.kp0 kd
      have hFd := hF.kp0 kd
      (repeat refine xo rfl rfl (by first|exact trivial|(simp only[AllP];omega)) ?_)
      refine x_load (b := b11) (off := k) (v := kV (os k)) rfl (by show Value.pointer (some ⟨b11, 0 + k, none⟩) = _; rw [Nat.zero_add]) (fun w' h' => h'.g1 hk2) rfl rfl rfl rfl ?_
      (repeat refine xo rfl rfl (by first|exact trivial|(simp only[AllP];omega)) ?_)
      refine x_load (b := b12) (off := k) (v := rV (os k)) rfl (by show Value.pointer (some ⟨b12, 0 + k, none⟩) = _; rw [Nat.zero_add]) (fun w' h' => h'.g2 hk2) rfl rfl rfl rfl ?_
      refine x_act rfl ?_
      refine o_call (sKWarned (hId.pok k)) rfl rfl rfl ?_
      rintro v u1 ⟨f1, c1, rfl, ow1, j1, n1⟩
      refine o_nil ⟨.inr (hFd.kp0 j1), ?_⟩
      refine x_act rfl ?_
      refine o_call (sRWarned ((hId.kp0 j1).pok k)) rfl rfl rfl ?_
      rintro v u2 ⟨f2, c2, rfl, r2, j2⟩
      have hF2 := (hFd.kp0 j1).kp0 j2
      refine o_nil ⟨.inr hF2, ?_⟩
      refine x_act rfl ?_
      refine o_call (sameFlags_yes (ow1.readN.kp j2 (by simp)) r2 rfl rfl (hId.pok k).warn_len) rfl rfl rfl ?_
      rintro v u3 ⟨rfl, s3⟩
      refine o_nil ⟨.inr (hF2.kp0 (s3.kp [])), ?_⟩
      (repeat first|refine xo rfl rfl trivial ?_|refine xn ?_)
      (repeat first|refine zg ?_|refine zo rfl rfl (by first|exact trivial|(simp only[AllP];omega)) ?_|refine zn ?_|refine zk ?_|refine zf rfl ?_)
      exact ⟨(i + 1, os), rfl, ⟨by dsimp only; omega, (((hId.kp0 j1).kp0 j2).kp0 (s3.kp [])).later hle, h3⟩, by dsimp only; omega⟩
    (repeat first|refine zA ?_|refine zg ?_|refine zo rfl rfl trivial ?_|refine zn ?_)
    refine r_if (p := a.do_ = 4) rfl (fun h4 => ?_) (fun h4 => ?_)
    · have e1k : 0 + ((1 : Int) - (k : Int)).toNat = 1 - k := by omega
      have hk1 : 1 - k < 2 := by omega
      have hn11 : b14 ≠ b11 := fun e => by have := hI.a1.lt; omega
      have hn12 : b14 ≠ b12 := fun e => by have := hI.a2.lt; omega
      (repeat first|refine zA ?_|refine zg ?_|refine zo rfl rfl (by first|exact trivial|(simp only[AllP];omega)) ?_)
      cases hok' : os k with
      | none =>
        refine o_loadc (b := b11) (off := k) (v := .pointer none) (by show Value.pointer (some ⟨b11, 0 + k, none⟩) = _; rw [Nat.zero_add]) ((hF.g1 hk2).trans (by rw [hok']; rfl)) rfl rfl rfl rfl ?_
        refine o_call (Copy_abs (.inl rfl)) rfl rfl rfl ?_
        rintro v u1 ⟨rfl, rfl⟩
        (repeat refine zo rfl rfl (by first|exact trivial|(simp only[AllP];omega)) ?_)
        refine o_store (b := b11) (off := 1 - k) (v := .pointer none) (by show Value.pointer (some ⟨b11, 0 + ((1 : Int) - (k : Int)).toNat, none⟩) = _; rw [e1k]) hF.a1 (by show 1 - k < 2; omega) rfl rfl rfl rfl rfl rfl ?_
        intro u2 hu2
        have k2 : Kp [b11] u1 u2 := hu2.kp _ (.inl (by simp))
        have hB11 := hu2.blk
        (repeat first|refine zA ?_|refine zg ?_|refine zo rfl rfl (by first|exact trivial|(simp only[AllP];omega)) ?_|refine zn ?_)
        refine o_loadc (b := b12) (off := k) (v := .pointer none) (by show Value.pointer (some ⟨b12, 0 + k, none⟩) = _; rw [Nat.zero_add]) (((k2.blk (by simpa using fun e => hI.ne e.symm) hF.a2).cell (arr2 (f := fun j => rV (os j)) hk2)).trans (by rw [hok']; rfl)) rfl rfl rfl rfl ?_
        refine o_call rCopy_nil rfl rfl rfl ?_
        rintro v u3 ⟨rfl, rfl⟩
        (repeat refine zo rfl rfl (by first|exact trivial|(simp only[AllP];omega)) ?_)
        refine o_store (b := b12) (off := 1 - k) (v := .pointer none) (by show Value.pointer (some ⟨b12, 0 + ((1 : Int) - (k : Int)).toNat, none⟩) = _; rw [e1k]) (k2.blk (by simpa using fun e => hI.ne e.symm) hF.a2) (by show 1 - k < 2; omega) rfl rfl rfl rfl rfl rfl ?_
        intro u4 hu4
        have k4 : Kp [b12] u3 u4 := hu4.kp _ (.inl (by simp))
        have hB12 := hu4.blk
        have hF4 : Fl3 (setO os (1 - k) none) a b11 b12 b14 u4 := ⟨by rw [← set2 (f := kV) hk2]; exact k4.blk (by simpa using hI.ne) hB11, by rw [← set2 (f := rV) hk2]; exact hB12, k4.blk (by simpa using hn12) (k2.blk (by simpa using hn11) hA6)⟩
        have hI4 : SI w u4 s b11 b12 (setO os (1 - k) none) (i * 1048577) := hI6.copy (j := k) (by omega) (by omega) h3 (fun x' hx' => by cases hx') ((k2.mono (by simp)).trans (k4.mono (by simp))) hF4.a1 hF4.a2
        (repeat refine zn ?_)
        refine r_seq ?_
        refine r_mix (Fl3 (setO os (1 - k) (none)) a b11 b12 b14) [(0, false), (1, false), (2, false), (3, false), (4, false), (5, false), (6, false), (7, false), (8, false), (9, false), (10, false)] follows_mixed (by kernel_rfl) (by kernel_rfl) (by kernel_rfl) ((hF4.kp0 ((Sm.drew _).kp []))) ?_
        have kd := (Sm.drew u4).kp []
        generalize ({ u4 with drawn := u4.drawn + 1 } : World) = vd at kd ⊢
        (repeat refine xo rfl rfl (by first|exact trivial|(simp only[AllP];omega)) ?_)
        refine x_load (b := b11) (off := 1 - k) (v := .pointer none) rfl (by show Value.pointer (some ⟨b11, 0 + ((1 : Int) - (k : Int)).toNat, none⟩) = _; rw [e1k]) (fun w' h' => (h'.g1 hk1).trans (by unfold setO; rw [if_pos rfl]; rfl)) rfl rfl rfl rfl ?_
        (repeat refine xo rfl rfl (by first|exact trivial|(simp only[AllP];omega)) ?_)
        refine x_load (b := b12) (off := 1 - k) (v := .pointer none) rfl (by show Value.pointer (some ⟨b12, 0 + ((1 : Int) - (k : Int)).toNat, none⟩) = _; rw [e1k]) (fun w' h' => (h'.g2 hk1).trans (by unfold setO; rw [if_pos rfl]; rfl)) rfl rfl rfl rfl ?_
        (repeat first|refine xo rfl rfl trivial ?_|refine xn ?_)
        (repeat first|refine zg ?_|refine zo rfl rfl (by first|exact trivial|(simp only[AllP];omega)) ?_|refine zn ?_|refine zk ?_|refine zf rfl ?_)
        exact ⟨(i + 1, setO os (1 - k) (none)), rfl, ⟨by dsimp only; omega, (hI4.kp0 kd).later hle, fun j y hy => setO_lt h3 hk1 hy⟩, by dsimp only; omega⟩
      | some x =>
        have hxs := hI6.seat k x hok'
        have hxw := (hI6.nw k x hok').1
        have hxm := (hI6.nw k x hok').2
        have hlt6 := hxs.lt
        have l11' := hI6.a1.lt
        have l12' := hI6.a2.lt
        have ht11 : 0 ≠ b11 := by have := hI6.tl; have := hI6.a1w; omega
        have ht12 : 0 ≠ b12 := by have := hI6.tl; have := hI6.a2w; omega
        refine o_loadc (b := b11) (off := k) (v := ptr x.k.kp) (by show Value.pointer (some ⟨b11, 0 + k, none⟩) = _; rw [Nat.zero_add]) ((hF.g1 hk2).trans (by rw [hok']; rfl)) rfl rfl rfl rfl ?_
        refine o_call (kCopy_ret hxs.ks.at_) rfl rfl rfl ?_
        rintro v u1 ⟨k', rfl, kc⟩
        have y1' := kc.kp.size
        have hF1 := hF.kp0 kc.kp
        (repeat refine zo rfl rfl (by first|exact trivial|(simp only[AllP];omega)) ?_)
        refine o_store (b := b11) (off := 1 - k) (v := ptr k'.kp) (by show Value.pointer (some ⟨b11, 0 + ((1 : Int) - (k : Int)).toNat, none⟩) = _; rw [e1k]) hF1.a1 (by show 1 - k < 2; omega) rfl rfl rfl rfl rfl rfl ?_
        intro u2 hu2
        have k2 : Kp [b11] u1 u2 := hu2.kp _ (.inl (by simp))
        have hB11 := hu2.blk
        have y2' := k2.size
        have hkin : ∀ b, k'.In b → b ≠ b11 := fun b hb e => by
          rcases kc.new b hb with q | q
          · exact hw11 k x hok' (.inl ⟨.core, by rw [← e]; exact (hxs.ks.at_.padC q).1⟩)
          · omega
        have hat2 : KAt u2 k' s x.S.c := kc.at_.kp k2 (fun i' b hb hb2 => hkin b ⟨i', hb⟩ (by simpa using hb2)) (by simpa using ht11)
        have hr2 : R23 u2 x.r s x.S.c x.A := (hxs.rs.kp0 kc.kp).kp k2 (fun b hb hb2 => hw11 k x hok' (.inr (by simp at hb2; rw [← hb2]; exact hb)))
        (repeat first|refine zA ?_|refine zg ?_|refine zo rfl rfl (by first|exact trivial|(simp only[AllP];omega)) ?_|refine zn ?_)
        refine o_loadc (b := b12) (off := k) (v := ptr x.r.p) (by show Value.pointer (some ⟨b12, 0 + k, none⟩) = _; rw [Nat.zero_add]) (((k2.blk (by simpa using fun e => hI.ne e.symm) hF1.a2).cell (arr2 (f := fun j => rV (os j)) hk2)).trans (by rw [hok']; rfl)) rfl rfl rfl rfl ?_
        refine o_call (rCopy23_ret hr2 hxs.nn) rfl rfl rfl ?_
        rintro v u3 ⟨r', rfl, kr⟩
        have y3' := kr.kp.size
        have hF3b := kr.kp.blk (by simp) (k2.blk (b := b12) (by simpa using fun e => hI.ne e.symm) hF1.a2)
        obtain ⟨hs3, hap, hin3⟩ := hxs.copy hat2 (by omega) kc.pad kc.new kc.H kc.V kr
        (repeat refine zo rfl rfl (by first|exact trivial|(simp only[AllP];omega)) ?_)
        refine o_store (b := b12) (off := 1 - k) (v := ptr r'.p) (by show Value.pointer (some ⟨b12, 0 + ((1 : Int) - (k : Int)).toNat, none⟩) = _; rw [e1k]) hF3b (by show 1 - k < 2; omega) rfl rfl rfl rfl rfl rfl ?_
        intro u4 hu4
        have k4 : Kp [b12] u3 u4 := hu4.kp _ (.inl (by simp))
        have hB12 := hu4.blk
        have hF4 : Fl3 (setO os (1 - k) (some ⟨k', r', x.S, x.A⟩)) a b11 b12 b14 u4 := ⟨by rw [← set2 (f := kV) hk2]; exact k4.blk (by simpa using hI.ne) (kr.kp.blk (by simp) hB11), by rw [← set2 (f := rV) hk2]; exact hB12, k4.blk (by simpa using hn12) (kr.kp.blk (by simp) (k2.blk (by simpa using hn11) hF1.a3))⟩
        have hs4 : Seat u4 s ⟨k', r', x.S, x.A⟩ := hs3.kq (k4.kq (Q := fun b => b = b12) (by simp)) (fun b hb hi => by
          subst hb
          rcases hin3 _ hi with q | q
          · exact hw12 k x hok' q
          · omega) ht12
        have hI4 : SI w u4 s b11 b12 (setO os (1 - k) (some ⟨k', r', x.S, x.A⟩)) (i * 1048577) := hI6.copy (j := k) (by omega) (by omega) h3 (fun x' hx' => by cases hx'; exact ⟨x, hok', hs4, hap, hin3, hxm⟩) (((kc.kp.mono (by simp)).trans (k2.mono (by simp))).trans ((kr.kp.mono (by simp)).trans (k4.mono (by simp)))) hF4.a1 hF4.a2
        (repeat refine zn ?_)
        refine r_seq ?_
        refine r_mix (Fl3 (setO os (1 - k) (some ⟨k', r', x.S, x.A⟩)) a b11 b12 b14) [(0, false), (1, false), (2, false), (3, false), (4, false), (5, false), (6, false), (7, false), (8, false), (9, false), (10, false)] follows_mixed (by kernel_rfl) (by kernel_rfl) (by kernel_rfl) ((hF4.kp0 ((Sm.drew _).kp []))) ?_
        have kd := (Sm.drew u4).kp []
        generalize ({ u4 with drawn := u4.drawn + 1 } : World) = vd at kd ⊢
        (repeat refine xo rfl rfl (by first|exact trivial|(simp only[AllP];omega)) ?_)
        refine x_load (b := b11) (off := 1 - k) (v := ptr k'.kp) rfl (by show Value.pointer (some ⟨b11, 0 + ((1 : Int) - (k : Int)).toNat, none⟩) = _; rw [e1k]) (fun w' h' => (h'.g1 hk1).trans (by unfold setO; rw [if_pos rfl]; rfl)) rfl rfl rfl rfl ?_
        (repeat refine xo rfl rfl (by first|exact trivial|(simp only[AllP];omega)) ?_)
        refine x_load (b := b12) (off := 1 - k) (v := ptr r'.p) rfl (by show Value.pointer (some ⟨b12, 0 + ((1 : Int) - (k : Int)).toNat, none⟩) = _; rw [e1k]) (fun w' h' => (h'.g2 hk1).trans (by unfold setO; rw [if_pos rfl]; rfl)) rfl rfl rfl rfl ?_
        (repeat first|refine xo rfl rfl trivial ?_|refine xn ?_)
        (repeat first|refine zg ?_|refine zo rfl rfl (by first|exact trivial|(simp only[AllP];omega)) ?_|refine zn ?_|refine zk ?_|refine zf rfl ?_)
        exact ⟨(i + 1, setO os (1 - k) (some ⟨k', r', x.S, x.A⟩)), rfl, ⟨by dsimp only; omega, (hI4.kp0 kd).later hle, fun j y hy => setO_lt h3 hk1 hy⟩, by dsimp only; omega⟩
    (repeat first|refine zg ?_|refine zo rfl rfl (by first|exact trivial|(simp only[AllP];omega)) ?_|refine zn ?_|refine zk ?_)
    exact ⟨(i + 1, os), rfl, ⟨by dsimp only; omega, hI6.later hle, h3⟩, by dsimp only; omega⟩
  · clear hi
    (repeat first|refine zA ?_|refine zB ?_|refine zg ?_|refine zo rfl rfl trivial ?_|refine zn ?_|refine zb ?_|refine ze rfl ?_)
    refine r_loop (α := Nat) [11, 12, 21] (fun q => [ptr b11, ptr b12, I q]) (fun q W => q ≤ 2 ∧ SI w W s b11 b12 os (i * 1048577)) (fun q => 2 - q) 0 rfl ⟨by omega, hI⟩ ?_
    rintro q e W2 ⟨hq, hI2⟩
    (repeat first|refine zA ?_|refine zB ?_|refine zg ?_|refine zo rfl rfl trivial ?_|refine zn ?_)
    refine r_if rfl (fun hc => ?_) (fun hc => ?_)
    · have hq2 : q < 2 := by omega
      (repeat first|refine zA ?_|refine zB ?_|refine zC ?_|refine zg ?_|refine zo rfl rfl trivial ?_|refine zn ?_|refine zb ?_|refine zk ?_)
      refine r_loop (α := Nat) [11, 12, 21, 22] (fun m => [ptr b11, ptr b12, I q, I ((m : Int) - 1)]) (fun m W => m ≤ 7 ∧ SI w W s b11 b12 os (i * 1048577)) (fun m => 7 - m) 0 rfl ⟨by omega, hI2⟩ ?_
      rintro m e W3 ⟨hm, hI3⟩
      (repeat first|refine zA ?_|refine zB ?_|refine zg ?_|refine zo rfl rfl trivial ?_|refine zn ?_)
      refine r_if rfl (fun hc => ?_) (fun hc => ?_)
      · have hsh := (hI3.pok q).short ((m : Int) - 1)
        (repeat first|refine zC ?_|refine zb ?_|refine zk ?_)
        refine r_seq ?_
        refine r_mix (fun w' => Blk w' b11 [kV (os 0), kV (os 1)] 53 ∧ Blk w' b12 [rV (os 0), rV (os 1)] 54) [(0, false), (1, false), (2, false), (3, false), (4, false), (5, false), (6, false), (7, true), (8, false)] follows_mixed (by kernel_rfl) (by kernel_rfl) (by kernel_rfl) ⟨(Sm.drew _).blk hI3.a1, (Sm.drew _).blk hI3.a2⟩ ?_
        have kd := (Sm.drew W3).kp []
        generalize ({ W3 with drawn := W3.drawn + 1 } : World) = vd at kd ⊢
        have hId := hI3.kp0 kd
        (repeat refine xo rfl rfl (by first|exact trivial|(simp only[AllP];omega)) ?_)
        refine x_load (b := b11) (off := q) (v := kV (os q)) rfl (by show Value.pointer (some ⟨b11, 0 + q, none⟩) = _; rw [Nat.zero_add]) (fun w' h' => h'.1.cell (arr2 (f := fun j => kV (os j)) hq2)) rfl rfl rfl rfl ?_
        (repeat refine xo rfl rfl (by first|exact trivial|(simp only[AllP];omega)) ?_)
        refine x_load (b := b12) (off := q) (v := rV (os q)) rfl (by show Value.pointer (some ⟨b12, 0 + q, none⟩) = _; rw [Nat.zero_add]) (fun w' h' => h'.2.cell (arr2 (f := fun j => rV (os j)) hq2)) rfl rfl rfl rfl ?_
        (repeat refine xo rfl rfl trivial ?_)
        refine x_act rfl ?_
        refine o_call (told_ret (hId.pok q) ((m : Int) - 1) ⟨by omega, by omega, by omega⟩) rfl rfl rfl ?_
        rintro v u1 ⟨rfl, j1⟩
        have hI4 := hId.kp0 j1
        refine o_nil ⟨.inr ⟨hI4.a1, hI4.a2⟩, ?_⟩
        (repeat first|refine xo rfl rfl trivial ?_|refine xn ?_)
        (repeat first|refine zg ?_|refine zo rfl rfl (by first|exact trivial|(simp only[AllP];omega)) ?_|refine zn ?_|refine zk ?_|refine zf rfl ?_)
        exact ⟨m + 1, by show [ptr b11, ptr b12, I q, I ((m : Int) - 1 + 1)] = [ptr b11, ptr b12, I q, I (((m + 1 : Nat) : Int) - 1)]; rw [show ((m : Int) - 1 + 1) = ((m + 1 : Nat) : Int) - 1 by omega], ⟨by omega, hI4⟩, by omega⟩
      · (repeat refine ze rfl ?_)
        refine r_seq ?_
        refine r_mix (fun w' => Blk w' b11 [kV (os 0), kV (os 1)] 53 ∧ Blk w' b12 [rV (os 0), rV (os 1)] 54) [(0, false), (1, false), (2, false), (4, false), (5, false), (6, false), (3, true), (7, true), (8, true), (9, false)] follows_mixed (by kernel_rfl) (by kernel_rfl) (by kernel_rfl) ⟨(Sm.drew _).blk hI3.a1, (Sm.drew _).blk hI3.a2⟩ ?_
        have kd := (Sm.drew W3).kp []
        generalize ({ W3 with drawn := W3.drawn + 1 } : World) = vd at kd ⊢
        have hId := hI3.kp0 kd
        (repeat refine xo rfl rfl (by first|exact trivial|(simp only[AllP];omega)) ?_)
        refine x_load (b := b11) (off := q) (v := kV (os q)) rfl (by show Value.pointer (some ⟨b11, 0 + q, none⟩) = _; rw [Nat.zero_add]) (fun w' h' => h'.1.cell (arr2 (f := fun j => kV (os j)) hq2)) rfl rfl rfl rfl ?_
        (repeat refine xo rfl rfl (by first|exact trivial|(simp only[AllP];omega)) ?_)
        refine x_load (b := b12) (off := q) (v := rV (os q)) rfl (by show Value.pointer (some ⟨b12, 0 + q, none⟩) = _; rw [Nat.zero_add]) (fun w' h' => h'.2.cell (arr2 (f := fun j => rV (os j)) hq2)) rfl rfl rfl rfl ?_
        refine x_act rfl ?_
        refine o_call (sKWarned (hId.pok q)) rfl rfl rfl ?_
        rintro v u1 ⟨f1, c1, rfl, ow1, j1, n1⟩
        have hI4 := hId.kp0 j1
        refine o_nil ⟨.inr ⟨hI4.a1, hI4.a2⟩, ?_⟩
        refine x_act rfl ?_
        refine o_call (sRWarned (hI4.pok q)) rfl rfl rfl ?_
        rintro v u2 ⟨f2, c2, rfl, r2, j2⟩
        have hI5 := hI4.kp0 j2
        refine o_nil ⟨.inr ⟨hI5.a1, hI5.a2⟩, ?_⟩
        refine x_act rfl ?_
        refine o_call (sameFlags_yes (ow1.readN.kp j2 (by simp)) r2 rfl rfl (hId.pok q).warn_len) rfl rfl rfl ?_
        rintro v u3 ⟨rfl, s3⟩
        have hI6 := hI5.kp0 (s3.kp [])
        refine o_nil ⟨.inr ⟨hI6.a1, hI6.a2⟩, ?_⟩
        (repeat first|refine xo rfl rfl trivial ?_|refine xn ?_)
        (repeat first|refine zg ?_|refine zo rfl rfl (by first|exact trivial|(simp only[AllP];omega)) ?_|refine zn ?_|refine zk ?_|refine zf rfl ?_)
        exact ⟨q + 1, rfl, ⟨by omega, hI6⟩, by omega⟩
    · (repeat first|refine zA ?_|refine zg ?_|refine ze rfl ?_)
      refine o_call (lives23_ret hI2.ta) rfl rfl rfl ?_
      rintro v u1 ⟨rfl, j1⟩
      (repeat first|refine zo rfl rfl trivial ?_|refine zn ?_|refine zr ?_)
      exact ⟨_, rfl, rfl, hI2.kp.trans j1⟩
end Go.Vc
