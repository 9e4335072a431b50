/- a relation without the table (by tool/mkZ.py out of the bits texts). -/
import Derived.Test.YtkgngbpkiklckaaGreatDoorQClQAlike27
namespace Go.Vc
open Go Go.Proofs
set_option maxRecDepth 10000
variable {w : World}
structure ZAt (w : World) (p n : Nat) (bs : List Nat) (M : List (List Nat)) (ad : Option Addr) (cap : Nat) : Prop where
  hdr : Blk w p [B true, I n, .slice ad n cap] 241
  own : OwnS w 242 1 ad n cap (bs.map (rowV (wid n)))
  nb : bs.length = n
  nM : M.length = n
  small : n ≤ 2048
  row : ∀ (i b : Nat) (ws : List Nat), bs[i]? = some b → M[i]? = some ws → Blk w b (ws.map U) 174 ∧ ws.length = wid n ∧ WOk ws
  nodup : bs.Nodup
section
variable {p n : Nat} {bs : List Nat} {M : List (List Nat)} {ad : Option Addr} {cap : Nat}
theorem ZAt.at_row (h : ZAt w p n bs M ad cap) {i : Nat} (hi : i < n) : ∃ b ws, bs[i]? = some b ∧ M[i]? = some ws ∧ Blk w b (ws.map U) 174 ∧ ws.length = wid n ∧ WOk ws := by
  have h1 : bs[i]? = some (bs[i]'(by rw [h.nb]; exact hi)) := List.getElem?_eq_getElem _
  have h2 : M[i]? = some (M[i]'(by rw [h.nM]; exact hi)) := List.getElem?_eq_getElem _
  exact ⟨_, _, h1, h2, h.row i _ _ h1 h2⟩
theorem ZAt.kp {w' : World} (h : ZAt w p n bs M ad cap) {S : List Nat} (hk : Kp S w w') (hd : ∀ b, b ∈ relBlks p ad bs → b ∉ S) : ZAt w' p n bs M ad cap :=
  ⟨hk.blk (hd p (by simp [relBlks])) h.hdr, h.own.kp hk (fun b hb => hd b (by simp [relBlks, hb])), h.nb, h.nM, h.small,
    fun i b ws h1 h2 => ⟨hk.blk (hd b (by simp [relBlks, List.mem_of_getElem? h1])) (h.row i b ws h1 h2).1, (h.row i b ws h1 h2).2⟩, h.nodup⟩
theorem ZAt.kp0 {w' : World} (h : ZAt w p n bs M ad cap) (hk : Kp [] w w') : ZAt w' p n bs M ad cap := h.kp hk (by simp)
theorem ZAt.sm {w' : World} (h : ZAt w p n bs M ad cap) (hs : Sm w w') : ZAt w' p n bs M ad cap := h.kp0 (hs.kp [])
theorem ZAt.lt (h : ZAt w p n bs M ad cap) : ∀ b, b ∈ relBlks p ad bs → b < w.heap.size := by
  intro b hb
  rcases List.mem_cons.1 hb with rfl | hb
  · exact h.hdr.lt
  · rcases List.mem_append.1 hb with hb | hb
    · exact h.own.lt b hb
    · obtain ⟨i, hi⟩ := List.getElem?_of_mem hb
      have hlt : i < n := by rw [← h.nb]; exact (List.getElem?_eq_some_iff.1 hi).1
      obtain ⟨b', ws, h1, _, h3, _⟩ := h.at_row hlt
      rw [hi] at h1; cases h1; exact h3.lt
end
structure ZTo (w : World) (p n : Nat) (bs : List Nat) (ad : Option Addr) (cap : Nat) (w' : World) (M' : List (List Nat)) : Prop where
  at_ : ZAt w' p n bs M' ad cap
  kp : Kp (relBlks p ad bs) w w'
section
variable {p n : Nat} {bs : List Nat} {M : List (List Nat)} {ad : Option Addr} {cap : Nat}
theorem ZTo.refl (h : ZAt w p n bs M ad cap) : ZTo w p n bs ad cap w M := ⟨h, Kp.refl _ _⟩
theorem ZTo.trans {w1 w2 : World} {M1 M2 : List (List Nat)} (h : ZTo w p n bs ad cap w1 M1) (k : ZTo w1 p n bs ad cap w2 M2) : ZTo w p n bs ad cap w2 M2 := ⟨k.at_, h.kp.trans k.kp⟩
theorem ZTo.sm {w1 w2 : World} {M1 : List (List Nat)} (h : ZTo w p n bs ad cap w1 M1) (hs : Sm w1 w2) : ZTo w p n bs ad cap w2 M1 := ⟨h.at_.sm hs, h.kp.trans (hs.kp _)⟩
theorem ZAt.ad_blk (h : ZAt w p n bs M ad cap) {b : Nat} (hb : b ∈ blkOf ad) : ∃ l, Blk w b l 242 := by
  have ho := h.own.2
  cases ad with
  | none => simp [blkOf] at hb
  | some ad =>
    simp [blkOf] at hb; subst hb
    obtain ⟨_, _, _, _, junk, h5, _⟩ := ho
    exact ⟨_, h5⟩
theorem ZAt.stored {w1 w2 : World} (h : ZAt w p n bs M ad cap) (hs : Sm w w1) {i b k x : Nat} {ws : List Nat} (hb : bs[i]? = some b) (hM : M[i]? = some ws) (hx : x < 2 ^ 64)
    (hu : Upd w1 b (.cells ⟨(ws.map U).set k (U x)⟩ 174 (0, 0)) w2) : ZTo w p n bs ad cap w2 (M.set i (ws.set k x)) := by
  obtain ⟨hB, hl, hok⟩ := h.row i b ws hb hM
  have hmem : b ∈ bs := List.mem_of_getElem? hb
  have hpb : p ≠ b := relRow_ne h.hdr hB (by decide)
  have hi : i < M.length := (List.getElem?_eq_some_iff.1 hM).1
  refine ⟨⟨hu.kept hpb (hs.blk h.hdr), ?_, h.nb, by simpa using h.nM, h.small, ?_, h.nodup⟩, (hs.kp _).trans (hu.kp _ (.inl (by simp [relBlks, hmem])))⟩
  · refine (h.own.sm hs).upd hu fun hb2 => ?_
    obtain ⟨l, hl2⟩ := h.ad_blk hb2
    exact relRow_ne hl2 hB (by decide) rfl
  · intro j b' ws' h1 h2
    by_cases hij : i = j
    · subst hij
      rw [hb] at h1; cases h1
      rw [List.getElem?_set_self hi] at h2
      cases h2
      refine ⟨?_, by simpa using hl, hok.set hx⟩
      have := hu.blk
      rwa [List.map_set]
    · rw [List.getElem?_set_ne hij] at h2
      obtain ⟨g1, g2⟩ := h.row j b' ws' h1 h2
      refine ⟨hu.kept (fun e => ?_) (hs.blk g1), g2⟩
      subst e
      obtain ⟨e1, e3⟩ := (List.getElem?_eq_some_iff.1 hb)
      obtain ⟨e2, e4⟩ := (List.getElem?_eq_some_iff.1 h1)
      have hp := List.pairwise_iff_getElem.1 h.nodup
      rcases Nat.lt_or_gt_of_ne hij with hlt | hlt
      · exact hp i j e1 e2 hlt (by rw [e3, e4])
      · exact hp j i e2 e1 hlt (by rw [e3, e4])
end
theorem zthere_ret {p n : Nat} {bs : List Nat} {M : List (List Nat)} {ad : Option Addr} {cap : Nat} (h : ZAt w p n bs M ad cap) : Ret Tryz.prog 134 [ptr p] w (fun v w' => v = .bool true ∧ w' = w) := by
  refine enter Tryz.call134 Tryz.func134 rfl rfl rfl rfl ?_
  (repeat first|refine zA ?_|refine zg ?_|refine zo rfl rfl trivial ?_|refine zn ?_|refine zT rfl rfl rfl ?_)
  refine o_load rfl h.hdr rfl rfl rfl rfl rfl ?_
  (repeat first|refine zo rfl rfl trivial ?_|refine zn ?_|refine zr ?_)
  exact ⟨_, rfl, rfl, rfl⟩
theorem znode_ret {p n : Nat} {bs : List Nat} {M : List (List Nat)} {ad : Option Addr} {cap : Nat} (h : ZAt w p n bs M ad cap) (i : Int) : Ret Tryz.prog 135 [ptr p, I i] w (fun v w' => v = .bool (nodeB n i) ∧ w' = w) := by
  refine enter Tryz.call135 Tryz.func135 rfl rfl rfl rfl ?_
  (repeat first|refine zA ?_|refine zg ?_|refine zo rfl rfl trivial ?_|refine zn ?_)
  refine o_split 2 true rfl rfl rfl (fun hb => ?_) (fun hb => ?_)
  · have hb' : 0 ≤ i := by simpa using hb
    (repeat refine zo rfl rfl trivial ?_)
    refine o_load rfl h.hdr rfl rfl rfl rfl rfl ?_
    (repeat first|refine zo rfl rfl trivial ?_|refine zn ?_|refine zr ?_)
    exact ⟨_, rfl, by simp [nodeB, hb'], rfl⟩
  · have hb' : ¬ 0 ≤ i := by simpa using hb
    (repeat first|refine zo rfl rfl trivial ?_|refine zn ?_|refine zr ?_)
    exact ⟨_, rfl, by simp [nodeB, hb'], rfl⟩

structure ZNew (w : World) (p n : Nat) (w' : World) (bs : List Nat) (M : List (List Nat)) (ad : Option Addr) (cap : Nat) : Prop where
  at_ : ZAt w' p n bs M ad cap
  kp : Kp [] w w'
  new : ∀ b, b ∈ relBlks p ad bs → w.heap.size ≤ b
theorem ZNew.to {w1 w2 : World} {p n : Nat} {bs : List Nat} {M M' : List (List Nat)} {ad : Option Addr} {cap : Nat} (h : ZNew w p n w1 bs M ad cap) (k : ZTo w1 p n bs ad cap w2 M') : ZNew w p n w2 bs M' ad cap :=
  ⟨k.at_, h.kp.since k.kp h.new, h.new⟩
theorem zNewRelation_ret {n : Nat} (hn : n ≤ 2048) : Ret Tryz.prog 90 [I n] w (fun v w' => ∃ p bs ad cap, v = .tuple #[ptr p, I 0] ∧ ZNew w p n w' bs (zeroM n) ad cap) := by
  refine enter Tryz.call90 Tryz.func90 rfl rfl rfl rfl ?_
  (repeat first|refine zA ?_|refine zB ?_|refine zg ?_|refine zo rfl rfl trivial ?_|refine zn ?_|refine zU rfl rfl rfl ?_)
  refine r_no rfl (by simp; omega) ?_
  (repeat first|refine zA ?_|refine zg ?_|refine zo rfl rfl trivial ?_|refine zk ?_)
  refine o_build [B true, I n, .slice none 0 0] rfl rfl rfl rfl rfl rfl rfl ?_
  refine o_box rfl rfl rfl ?_
  intro p w1 hp hu1
  (repeat first|refine zA ?_|refine zB ?_|refine zg ?_|refine zo rfl rfl trivial ?_|refine zn ?_|refine zb ?_)
  refine r_loop (α := Nat × List Nat × Option Addr × Nat) [0, 4, 14, 15] (fun g => [I n, ptr p, I n, I g.1])
    (fun g w2 => Blk w2 p [B true, I n, .slice g.2.2.1 g.1 g.2.2.2] 241 ∧ OwnS w2 242 1 g.2.2.1 g.1 g.2.2.2 (g.2.1.map (rowV (wid n))) ∧ g.2.1.length = g.1 ∧ g.1 ≤ n ∧ Kp [] w w2 ∧ (∀ b ∈ g.2.1, Blk w2 b (List.replicate (wid n) (U 0)) 174) ∧ g.2.1.Nodup ∧ (∀ b ∈ relBlks p g.2.2.1 g.2.1, w.heap.size ≤ b)) (fun g => n - g.1) (0, [], none, 0) rfl
    ⟨hu1.blk, ownS_nil _ _ _, rfl, by omega, hu1.kp [] (.inr (by omega)), by simp, List.nodup_nil, by simp [relBlks, blkOf]; omega⟩ ?_
  rintro ⟨i, bs, ad, cap⟩ e w2 ⟨hH, hO, hlen, hi, hk, hrows, hnd, hnew⟩
  dsimp only at hH hO hlen hi hk hrows hnd hnew ⊢
  (repeat first|refine zA ?_|refine zD ?_|refine zg ?_|refine zo rfl rfl trivial ?_|refine zn ?_)
  refine r_if rfl (fun hc => ?_) (fun hc => ?_)
  rotate_left
  · have : i = n := by omega
    subst this
    (repeat first|refine zA ?_|refine zg ?_|refine zo rfl rfl trivial ?_|refine zn ?_|refine ze rfl ?_|refine zr ?_)
    refine ⟨_, rfl, p, bs, ad, cap, rfl, ⟨hH, hO, hlen, by simp [zeroM], hn, ?_, hnd⟩, hk, hnew⟩
    · intro j b ws h1 h2
      have hj : j < i := by rw [← hlen]; exact (List.getElem?_eq_some_iff.1 h1).1
      unfold zeroM at h2
      rw [List.getElem?_replicate, if_pos hj] at h2
      cases h2
      refine ⟨?_, by simp, WOk.zeros _⟩
      rw [List.map_replicate]; exact hrows b (List.mem_of_getElem? h1)
  · (repeat first|refine zC ?_|refine zb ?_|refine zk ?_)
    refine r_mix (fun w' => Blk w' p [B true, I n, .slice ad i cap] 241) [(0, false), (1, false), (2, false), (3, false), (4, false), (5, false), (6, false), (7, false), (8, true), (9, true), (10, true), (11, false), (12, false), (13, true)] follows_mixed (by kernel_rfl) (by kernel_rfl) (by kernel_rfl) ((Sm.drew w2).blk hH) ?_
    have hO := hO.sm (Sm.drew w2)
    have hk := hk.trans ((Sm.drew w2).kp [])
    have hrows : ∀ b ∈ bs, Blk { w2 with drawn := w2.drawn + 1 } b (List.replicate (wid n) (U 0)) 174 := fun b hb => (Sm.drew w2).blk (hrows b hb)
    have hH := (Sm.drew w2).blk hH
    generalize ({ w2 with drawn := w2.drawn + 1 } : World) = w2 at hO hk hrows hH ⊢
    (repeat refine xo rfl rfl trivial ?_)
    refine x_load rfl rfl (fun w' h' => h'.cell rfl) rfl rfl rfl rfl ?_
    (repeat refine xo rfl rfl (by first|exact trivial|(simp(discharger:=omega)only[AllP,cA,cB];omega)) ?_)
    have hdiv : Int.tdiv ((n : Int) + 63) 64 = ((wid n : Nat) : Int) := by
      have := tdiv64 (n + 63); unfold wid; rw [← this]; rfl
    have hwid : wid n ≤ 32 := by unfold wid; omega
    refine x_act rfl ?_
    refine o_make (len := (wid n : Int)) (cap := (wid n : Int)) (kl := .i64) (kc := .i64) (congrArg (Value.int .i64) hdiv) (congrArg (Value.int .i64) hdiv) rfl rfl rfl (by omega) (by omega) (by omega) (by omega) rfl rfl ?_
    intro b3 w3 hb3 hu3
    rw [Int.toNat_natCast] at hu3 ⊢
    have k3 : Kp [] w2 w3 := hu3.kp [] (.inr (by omega))
    have hH3 := k3.blk (by simp) hH
    refine o_nil ⟨.inr hH3, ?_⟩
    refine x_act rfl ?_
    refine o_buildSlice [rowV (wid n) b3] rfl (by simp [Value.oneCell']) rfl (by decide) (by decide) rfl rfl rfl rfl rfl ?_
    intro b4 w4 hb4 hu4
    have k4 : Kp [] w3 w4 := hu4.kp [] (.inr (by omega))
    have hH4 := k4.blk (by simp) hH3
    refine o_nil ⟨.inr hH4, ?_⟩
    refine x_act rfl ?_
    refine o_append1 rfl rfl ((hO.kp k3 (by simp)).kp k4 (by simp)) hu4.blk rfl rfl rfl rfl (by simp only [maxLen]; omega) (by omega) rfl rfl ?_
    intro ad5 cap5 w5 ho5 k5 hnew5
    have s3 := hu3.size
    have s4 := hu4.size
    have sk := hk.size
    have pad : p ∉ blkOf ad := fun hb => by
      obtain ⟨_, _, _, _, junk, h5, _⟩ : ∃ a b c d junk, Blk w2 p junk 242 ∧ True := by
        have ho := hO.2
        cases ad with
        | none => simp [blkOf] at hb
        | some ad =>
          simp [blkOf] at hb; subst hb
          obtain ⟨_, _, _, _, junk, h5, _⟩ := ho
          exact ⟨0, 0, 0, 0, _, h5, trivial⟩
      exact relRow_ne hH h5 (by decide) rfl
    have hH5 := k5.blk pad hH4
    refine o_nil ⟨.inr hH5, ?_⟩
    (repeat refine xo rfl rfl trivial ?_)
    refine x_act rfl ?_
    refine o_store rfl hH5 (by simp) rfl rfl rfl rfl rfl rfl ?_
    intro w6 hu6
    refine o_nil ⟨.inl (by kernel_rfl), ?_⟩
    (repeat refine xn ?_)
    (repeat first|refine zg ?_|refine zo rfl rfl (by first|exact trivial|(simp only[AllP];omega)) ?_|refine zn ?_)
    have p5 : p ∉ blkOf ad5 := fun hb => by
      rcases hnew5 p hb with h1 | h1
      · exact pad h1
      · have := hH.lt; omega
    have k36 : Kp (p :: blkOf ad) w2 w6 := (((k3.trans k4).mono (S' := p :: blkOf ad) (by simp)).after k5 (fun b hb => .inl (by simp [hb]))).after (hu6.kp [p] (.inl (by simp))) (fun b hb => .inl (by simp at hb; simp [hb]))
    have oldrow : ∀ b ∈ bs, b ∉ p :: blkOf ad := fun b hb hb2 => by
      have hB := hrows b hb
      rcases List.mem_cons.1 hb2 with rfl | hb2
      · exact relRow_ne hH hB (by decide) rfl
      · have ho := hO.2
        cases ad with
        | none => simp [blkOf] at hb2
        | some ad =>
          simp [blkOf] at hb2; subst hb2
          obtain ⟨_, _, _, _, junk, h5, _⟩ := ho
          exact relRow_ne h5 hB (by decide) rfl
    refine ⟨(i + 1, bs ++ [b3], ad5, cap5), rfl, ⟨hu6.blk, ?_, by simp [hlen], by dsimp only; omega, hk.since k36 (fun b hb => hnew b (by rcases List.mem_cons.1 hb with rfl | hb; simp [relBlks]; simp [relBlks, hb])), ?_, ?_, ?_⟩, by dsimp only; omega⟩
    · dsimp only; rw [List.map_append]; exact ho5.upd hu6 p5
    · intro b hb
      rcases List.mem_append.1 hb with hb | hb
      · exact k36.blk (oldrow b hb) (hrows b hb)
      · simp at hb; subst hb
        have h1 := hu3.blk
        have h2 := k4.blk (by simp) h1
        have hb5 : b ∉ blkOf ad := fun hm => by have := hO.lt b hm; omega
        have h3 := k5.blk hb5 h2
        exact hu6.kept (fun e => by subst e; have := hH.lt; omega) h3
    · dsimp only
      rw [List.nodup_append]
      refine ⟨hnd, by simp, fun a ha b hb => ?_⟩
      simp at hb; subst hb
      have := (hrows a ha).lt; omega
    · dsimp only
      intro b hb
      unfold relBlks at hb
      rcases List.mem_cons.1 hb with rfl | hb
      · exact hnew _ (by simp [relBlks])
      · rcases List.mem_append.1 hb with hb | hb
        · rcases hnew5 b hb with h1 | h1
          · exact hnew b (by simp [relBlks, h1])
          · omega
        · rcases List.mem_append.1 hb with hb | hb
          · exact hnew b (by simp [relBlks, hb])
          · simp at hb; omega
section
variable {p n : Nat} {bs : List Nat} {M : List (List Nat)} {ad : Option Addr} {cap : Nat}
theorem ZAt.cells (h : ZAt w p n bs M ad cap) {i : Nat} (hi : i < n) : ∃ ba b ws, ad = some ⟨ba, 0, none⟩ ∧ bs[i]? = some b ∧ M[i]? = some ws ∧ Blk w b (ws.map U) 174 ∧ ws.length = wid n ∧ WOk ws ∧ w.cell? ⟨ba, i, none⟩ = some (rowV (wid n) b) ∧ ∀ k, k < wid n → w.cell? ⟨b, k, none⟩ = some (U (ws.getD k 0)) := by
  obtain ⟨b, ws, h1, h2, h3, h4, h5⟩ := h.at_row hi
  have ho := h.own
  cases ad with
  | none => have := ho.2.1; omega
  | some ad =>
    obtain ⟨ba, off, spot⟩ := ad
    obtain ⟨e1, e2, _⟩ := ho.2
    cases e1; cases e2
    refine ⟨ba, b, ws, rfl, h1, h2, h3, h4, h5, ?_, fun k hk => ?_⟩
    · exact ho.get (by rw [List.getElem?_map, h1]; rfl)
    · refine h3.cell ?_
      rw [List.getElem?_map, List.getD_eq_getElem?_getD, List.getElem?_eq_getElem (by omega)]; rfl
theorem zLink_ret (h : ZAt w p n bs M ad cap) {i j : Nat} (hi : i < n) (hj : j < n) :
    Ret Tryz.prog 92 [ptr p, I i, I j] w (fun v w' => v = I 0 ∧ ZTo w p n bs ad cap w' (linkM M i j)) := by
  obtain ⟨ba, b, ws, rfl, hb, hM, hB, hl, hok, hca, hcw⟩ := h.cells hi
  have hn := h.small
  refine enter Tryz.call92 Tryz.func92 rfl rfl rfl rfl ?_
  (repeat first|refine zA ?_|refine zC ?_|refine zg ?_|refine zo rfl rfl trivial ?_|refine zn ?_|refine zb ?_)
  refine o_call (zthere_ret h) rfl rfl rfl ?_
  rintro v w1 ⟨rfl, rfl⟩
  (repeat first|refine zA ?_|refine zg ?_|refine zo rfl rfl trivial ?_|refine zn ?_|refine zf rfl ?_)
  have n1 : nodeB n (i : Int) = true := by unfold nodeB; simp; omega
  have n2 : nodeB n (j : Int) = true := by unfold nodeB; simp; omega
  refine o_call (znode_ret h i) rfl rfl rfl ?_
  rintro v w2 ⟨rfl, rfl⟩
  rw [n1]
  (repeat first|refine zo rfl rfl trivial ?_|refine zU rfl rfl rfl ?_)
  refine o_call (znode_ret h j) rfl rfl rfl ?_
  rintro v w1 ⟨rfl, rfl⟩
  rw [n2]
  (repeat first|refine zo rfl rfl trivial ?_|refine zn ?_|refine zk ?_|refine zf rfl ?_)
  have hjw := wid_lt hj
  have hd := tdiv64 j
  refine r_seq ?_
  refine r_lastL follows_mixed rfl (by kernel_rfl) (by kernel_rfl) ?_
  dsimp only [List.dropLast]
  have hs0 : ∀ w', Sm w1 w' → w'.heap = w1.heap := fun w' hs => hs.heap
  (repeat refine yo rfl rfl trivial ?_)
  refine q_load rfl (fun w hs => (hs.blk h.hdr).cell rfl) rfl rfl rfl rfl ?_
  (repeat refine yo rfl rfl (by first|exact trivial|(simp only[AllP];omega)) ?_)
  refine q_load (v := rowV (wid n) b) rfl (fun w hs => ?_) rfl rfl rfl rfl ?_
  · show w.cell? ⟨ba, 0 + i, none⟩ = _
    rw [Nat.zero_add, ← hca]; exact World.cell?_of_block (by rw [hs.heap])
  (repeat refine yo rfl rfl (by first|exact trivial|(simp only[AllP];omega)) ?_)
  refine q_load (v := U (ws.getD (j / 64) 0)) rfl (fun w hs => ?_) rfl rfl rfl rfl ?_
  · show w.cell? ⟨b, 0 + (Int.tdiv (j : Int) 64).toNat, none⟩ = _
    rw [hd, Int.toNat_natCast, Nat.zero_add, ← hcw _ hjw]; exact World.cell?_of_block (by rw [hs.heap])
  (repeat first|refine yo rfl rfl (by first|exact trivial|(simp(discharger:=omega)only[AllP,cA,cB];omega)) ?_|refine yn ?_)
  intro w3 hs3
  have hx := hok.getD (j / 64)
  have e1 : ibits .or .u64 ((ws.getD (j / 64) 0 : Nat) : Int) (IntKind.u64.wrap (1 * 2 ^ (min (Int.tmod (j : Int) 64).toNat 64))) = ((ws.getD (j / 64) 0 ||| 2 ^ (j % 64) : Nat) : Int) := by
    rw [tmod64, Int.toNat_natCast, shl_one (by omega), ibits_or hx (Nat.pow_lt_pow_right (by omega) (by omega))]
  have hx2 : ws.getD (j / 64) 0 ||| 2 ^ (j % 64) < 2 ^ 64 := Nat.or_lt_two_pow hx (Nat.pow_lt_pow_right (by omega) (by omega))
  refine o_store (b := b) (off := j / 64) (v := U (ws.getD (j / 64) 0 ||| 2 ^ (j % 64))) (c := none) ?_ (hs3.blk hB) (by simp; omega) ?_ rfl rfl rfl rfl rfl ?_
  · show Value.pointer (some ⟨b, 0 + (Int.tdiv (j : Int) 64).toNat, none⟩) = _
    rw [hd, Int.toNat_natCast, Nat.zero_add]
  · exact congrArg (fun z => some (none, Value.int .u64 z)) e1
  intro w4 hu4
  have hst := h.stored hs3 hb hM hx2 hu4
  (repeat first|refine zA ?_|refine zg ?_|refine zo rfl rfl trivial ?_|refine zn ?_|refine zr ?_)
  refine ⟨_, rfl, rfl, ?_⟩
  unfold linkM
  rw [List.getD_eq_getElem?_getD, hM]
  exact hst
theorem zLinked_ret (h : ZAt w p n bs M ad cap) (i j : Int) :
    Ret Tryz.prog 136 [ptr p, I i, I j] w (fun v w' => v = .bool (linkedB n M i j) ∧ w' = w) := by
  have hn := h.small
  refine enter Tryz.call136 Tryz.func136 rfl rfl rfl rfl ?_
  (repeat first|refine zA ?_|refine zg ?_|refine zo rfl rfl trivial ?_|refine zn ?_)
  refine o_call (zthere_ret h) rfl rfl rfl ?_
  rintro v w1 ⟨rfl, rfl⟩
  (repeat first|refine zo rfl rfl trivial ?_|refine zT rfl rfl rfl ?_)
  refine o_call (znode_ret h i) rfl rfl rfl ?_
  rintro v w2 ⟨rfl, rfl⟩
  cases n1 : nodeB n i with
  | false =>
    (repeat first|refine zo rfl rfl trivial ?_|refine zn ?_|refine zr ?_|refine zU rfl rfl rfl ?_)
    exact ⟨_, rfl, by simp [linkedB, n1], rfl⟩
  | true =>
    (repeat first|refine zo rfl rfl trivial ?_|refine zT rfl rfl rfl ?_)
    refine o_call (znode_ret h j) rfl rfl rfl ?_
    rintro v w1 ⟨rfl, rfl⟩
    cases n2 : nodeB n j with
    | false =>
      (repeat first|refine zo rfl rfl trivial ?_|refine zn ?_|refine zr ?_|refine zU rfl rfl rfl ?_)
      exact ⟨_, rfl, by simp [linkedB, n1, n2], rfl⟩
    | true =>
      obtain ⟨i, rfl, hi⟩ := nodeB_nat n1
      obtain ⟨j, rfl, hj⟩ := nodeB_nat n2
      obtain ⟨ba, b, ws, rfl, hb, hM, hB, hl, hok, hca, hcw⟩ := h.cells hi
      have hjw := wid_lt hj
      have hd := tdiv64 j
      (repeat first|refine zo rfl rfl trivial ?_|refine zT rfl rfl rfl ?_)
      refine o_load rfl h.hdr rfl rfl rfl rfl rfl ?_
      (repeat refine zo rfl rfl (by first|exact trivial|(simp only[AllP];omega)) ?_)
      refine o_loadc (v := rowV (wid n) b) rfl ?_ rfl rfl rfl rfl ?_
      · show w1.cell? ⟨ba, 0 + i, none⟩ = _
        rw [Nat.zero_add]; exact hca
      (repeat refine zo rfl rfl (by first|exact trivial|(simp only[AllP];omega)) ?_)
      refine o_loadc (v := U (ws.getD (j / 64) 0)) rfl ?_ rfl rfl rfl rfl ?_
      · show w1.cell? ⟨b, 0 + (Int.tdiv (j : Int) 64).toNat, none⟩ = _
        rw [hd, Int.toNat_natCast, Nat.zero_add]; exact hcw _ hjw
      (repeat first|refine zo rfl rfl (by first|exact trivial|(simp(discharger:=omega)only[AllP,cA,cB];omega)) ?_|refine zn ?_|refine zr ?_)
      refine ⟨_, rfl, ?_, rfl⟩
      show Value.bool (!decide (ibits .and .u64 (Int.fdiv ((ws.getD (j / 64) 0 : Nat) : Int) (2 ^ (min (Int.tmod (j : Int) 64).toNat 64))) 1 = 0)) = _
      rw [bit_shr (hok.getD _)]
      refine congrArg Value.bool ?_
      unfold linkedB
      rw [n1, n2, Int.toNat_natCast, Int.toNat_natCast, bitM_row hM]
      unfold bit
      rw [Bool.eq_iff_iff]
      simp only [Bool.not_eq_true', decide_eq_false_iff_not, bit_and1]
      simp
theorem zClose_ret (h : ZAt w p n bs M ad cap) :
    Ret Tryz.prog 93 [ptr p] w (fun v w' => v = I 0 ∧ ZTo w p n bs ad cap w' (closeM n M)) := by
  have hn := h.small
  have hwn : wid n ≤ 32 := by unfold wid; omega
  refine enter Tryz.call93 Tryz.func93 rfl rfl rfl rfl ?_
  (repeat first|refine zA ?_|refine zB ?_|refine zg ?_|refine zo rfl rfl trivial ?_|refine zn ?_)
  refine o_call (zthere_ret h) rfl rfl rfl ?_
  rintro v w1 ⟨rfl, rfl⟩
  (repeat first|refine zA ?_|refine zB ?_|refine zg ?_|refine zo rfl rfl trivial ?_|refine zn ?_|refine zk ?_|refine zf rfl ?_)
  refine o_load rfl h.hdr rfl rfl rfl rfl rfl ?_
  (repeat first|refine zo rfl rfl trivial ?_|refine zn ?_|refine zb ?_)
  refine r_loop (α := Nat) [0, 13, 14] (fun k => [ptr p, I n, I k]) (fun k w2 => ZTo w1 p n bs ad cap w2 (closeTo n M k) ∧ k ≤ n) (fun k => n - k) 0 rfl ⟨ZTo.refl h, by omega⟩ ?_
  rintro k e w2 ⟨hto, hk⟩
  (repeat first|refine zA ?_|refine zD ?_|refine zg ?_|refine zo rfl rfl trivial ?_|refine zn ?_)
  refine r_if rfl (fun hc => ?_) (fun hc => ?_)
  rotate_left
  · have : k = n := by omega
    subst this
    (repeat first|refine zA ?_|refine zg ?_|refine zo rfl rfl trivial ?_|refine zn ?_|refine ze rfl ?_|refine zr ?_)
    exact ⟨_, rfl, rfl, hto⟩
  have hkn : k < n := by omega
  (repeat first|refine zA ?_|refine zC ?_|refine zg ?_|refine zo rfl rfl trivial ?_|refine zn ?_|refine zb ?_|refine zk ?_)
  refine o_load rfl hto.at_.hdr rfl rfl rfl rfl rfl ?_
  (repeat first|refine zo rfl rfl trivial ?_|refine zn ?_|refine zb ?_)
  generalize hN : closeTo n M k = N at hto
  refine r_loop (α := Nat) [0, 3, 13, 14, 20, 21] (fun i => [ptr p, I k, I n, I k, I n, I i]) (fun i w3 => ZTo w1 p n bs ad cap w3 (stepK n N k i) ∧ i ≤ n) (fun i => n - i) 0 rfl ⟨hto, by omega⟩ ?_
  rintro i e w3 ⟨hto3, hi⟩
  (repeat first|refine zA ?_|refine zD ?_|refine zg ?_|refine zo rfl rfl trivial ?_|refine zn ?_)
  refine r_if rfl (fun hc2 => ?_) (fun hc2 => ?_)
  rotate_left
  · have : i = n := by omega
    subst this
    (repeat first|refine zg ?_|refine zo rfl rfl (by first|exact trivial|(simp only[AllP];omega)) ?_|refine zn ?_|refine ze rfl ?_)
    refine ⟨k + 1, rfl, ⟨?_, by omega⟩, by omega⟩
    rw [closeTo_succ, hN]
    exact hto3
  have hin : i < n := by omega
  have hss := stepK_succ n N k i
  generalize stepK n N k i = S at hto3 hss
  have h3 := hto3.at_
  (repeat first|refine zA ?_|refine zB ?_|refine zC ?_|refine zg ?_|refine zo rfl rfl trivial ?_|refine zn ?_|refine zb ?_|refine zk ?_)
  refine o_call (zLinked_ret h3 i k) rfl rfl rfl ?_
  rintro v w4 ⟨rfl, rfl⟩
  have hlb : linkedB n S (i : Int) (k : Int) = bitM S i k := by
    unfold linkedB nodeB
    simp
    omega
  rw [hlb]
  cases hbit : bitM S i k with
  | false =>
    rw [hbit, if_neg (by simp)] at hss
    (repeat first|refine zg ?_|refine zo rfl rfl (by first|exact trivial|(simp only[AllP];omega)) ?_|refine zn ?_|refine ze rfl ?_|refine zt rfl ?_)
    exact ⟨i + 1, rfl, ⟨by rw [hss]; exact hto3, by omega⟩, by omega⟩
  | true =>
    rw [hbit, if_pos rfl] at hss
    (repeat first|refine zA ?_|refine zg ?_|refine zo rfl rfl trivial ?_|refine zn ?_|refine zk ?_|refine zf rfl ?_)
    refine o_load rfl h3.hdr rfl rfl rfl rfl rfl ?_
    obtain ⟨ba, bk, wk, hade, hbk, hMk, hBk, hlk, hok, hca, _⟩ := h3.cells hkn
    obtain ⟨ba', bi, wi, hade', hbi, hMi, hBi, hli, hoi, hca', _⟩ := h3.cells hin
    rw [hade] at hade'
    cases hade'
    have hSi : S.getD i [] = wi := by rw [List.getD_eq_getElem?_getD, hMi]; rfl
    have hSk : S.getD k [] = wk := by rw [List.getD_eq_getElem?_getD, hMk]; rfl
    rw [hSi, hSk] at hss
    subst hade
    (repeat refine zo rfl rfl (by first|exact trivial|(simp only[AllP];omega)) ?_)
    refine o_loadc (v := rowV (wid n) bk) rfl ?_ rfl rfl rfl rfl ?_
    · show w4.cell? ⟨ba, 0 + k, none⟩ = _
      rw [Nat.zero_add]; exact hca
    (repeat first|refine zo rfl rfl trivial ?_|refine zn ?_|refine zb ?_)
    refine r_loop (α := Nat) [0, 3, 4, 13, 14, 20, 21, 35, 36, 37] (fun a => [ptr p, I k, I i, I n, I k, I n, I i, rowV (wid n) bk, I (wid n), I a]) (fun a w5 => ZTo w1 p n bs (some ⟨ba, 0, none⟩) cap w5 (S.set i (updW (· ||| ·) wi wk a)) ∧ a ≤ wid n) (fun a => wid n - a) 0 rfl ⟨by rw [updW_zero, set_self hMi]; exact hto3, by omega⟩ ?_
    rintro a e w5 ⟨hto5, ha⟩
    (repeat first|refine zA ?_|refine zD ?_|refine zg ?_|refine zo rfl rfl trivial ?_|refine zn ?_)
    refine r_if rfl (fun hc3 => ?_) (fun hc3 => ?_)
    rotate_left
    · have : a = wid n := by omega
      subst this
      (repeat first|refine zg ?_|refine zo rfl rfl (by first|exact trivial|(simp only[AllP];omega)) ?_|refine zn ?_|refine ze rfl ?_)
      refine ⟨i + 1, rfl, ⟨?_, by omega⟩, by omega⟩
      rw [hss]
      unfold orRow
      rw [hlk]
      exact hto5
    have hlt : a < wid n := by omega
    have h5 := hto5.at_
    have hiS : i < S.length := (List.getElem?_eq_some_iff.1 hMi).1
    have hMi5 : (S.set i (updW (· ||| ·) wi wk a))[i]? = some (updW (· ||| ·) wi wk a) := List.getElem?_set_self hiS
    obtain ⟨hBi5, hli5, hoi5⟩ := h5.row i bi _ hbi hMi5
    have hx1 := hoi.getD a
    have hx2 := hok.getD a
    have ca5 : ∀ j b, bs[j]? = some b → w5.cell? ⟨ba, j, none⟩ = some (rowV (wid n) b) := fun j b hb => h5.own.get (by rw [List.getElem?_map, hb]; rfl)
    -- the word of row k is as it was
    have hwk : w5.cell? ⟨bk, a, none⟩ = some (U (wk.getD a 0)) := by
      by_cases hik : i = k
      · subst hik
        rw [hbi] at hbk; cases hbk
        rw [hMi] at hMk; cases hMk
        refine hBi5.cell ?_
        rw [updW_or_self, List.getElem?_map, List.getD_eq_getElem?_getD, List.getElem?_eq_getElem (by omega)]; rfl
      · have hMk5 : (S.set i (updW (· ||| ·) wi wk a))[k]? = some wk := by rw [List.getElem?_set_ne hik]; exact hMk
        refine (h5.row k bk _ hbk hMk5).1.cell ?_
        rw [List.getElem?_map, List.getD_eq_getElem?_getD, List.getElem?_eq_getElem (by omega)]; rfl
    have hwi : w5.cell? ⟨bi, a, none⟩ = some (U (wi.getD a 0)) := by
      refine hBi5.cell ?_
      have hg := updW_getD (· ||| ·) wi wk a a (by omega)
      rw [if_neg (by omega)] at hg
      rw [List.getElem?_map, ← hg, List.getD_eq_getElem?_getD, List.getElem?_eq_getElem (by omega)]; rfl
    (repeat first|refine zA ?_|refine zC ?_|refine zg ?_|refine zo rfl rfl (by first|exact trivial|(simp only[AllP];omega)) ?_|refine zb ?_|refine zk ?_)
    refine o_loadc (v := U (wk.getD a 0)) rfl ?_ rfl rfl rfl rfl ?_
    · show w5.cell? ⟨bk, 0 + a, none⟩ = _
      rw [Nat.zero_add]; exact hwk
    (repeat first|refine zg ?_|refine zo rfl rfl trivial ?_|refine zn ?_)
    refine o_load rfl h5.hdr rfl rfl rfl rfl rfl ?_
    (repeat refine zo rfl rfl (by first|exact trivial|(simp only[AllP];omega)) ?_)
    refine o_loadc (v := rowV (wid n) bi) rfl ?_ rfl rfl rfl rfl ?_
    · show w5.cell? ⟨ba, 0 + i, none⟩ = _
      rw [Nat.zero_add]; exact ca5 i bi hbi
    (repeat refine zo rfl rfl (by first|exact trivial|(simp only[AllP];omega)) ?_)
    refine o_loadc (v := U (wi.getD a 0)) rfl ?_ rfl rfl rfl rfl ?_
    · show w5.cell? ⟨bi, 0 + a, none⟩ = _
      rw [Nat.zero_add]; exact hwi
    (repeat refine zo rfl rfl (by first|exact trivial|(simp only[AllP];omega)) ?_)
    have e1 := ibits_or hx1 hx2
    refine o_store (b := bi) (off := a) (v := U (wi.getD a 0 ||| wk.getD a 0)) (c := none) ?_ hBi5 (by simp; omega) ?_ rfl rfl rfl rfl rfl ?_
    · show Value.pointer (some ⟨bi, 0 + a, none⟩) = _
      rw [Nat.zero_add]
    · exact congrArg (fun z => some (none, Value.int .u64 z)) e1
    intro w6 hu6
    have hst := h5.stored (Sm.refl _) hbi hMi5 (Nat.or_lt_two_pow hx1 hx2) hu6
    rw [updW_set _ _ _ _ (by omega), List.set_set] at hst
    (repeat first|refine zg ?_|refine zo rfl rfl (by first|exact trivial|(simp only[AllP];omega)) ?_|refine zn ?_)
    exact ⟨a + 1, rfl, ⟨hto5.trans hst, by omega⟩, by omega⟩
end
theorem ZAt.mok {w : World} {p n : Nat} {bs : List Nat} {M : List (List Nat)} {ad : Option Addr} {cap : Nat} (h : ZAt w p n bs M ad cap) : MOk n M :=
  ⟨h.nM, fun ws hw => by
    obtain ⟨i, hi⟩ := List.getElem?_of_mem hw
    have hlt : i < n := by rw [← h.nM]; exact (List.getElem?_eq_some_iff.1 hi).1
    obtain ⟨b, ws', _, h2, _, h4⟩ := h.at_row hlt
    rw [hi] at h2; cases h2; exact h4⟩
end Go.Vc
