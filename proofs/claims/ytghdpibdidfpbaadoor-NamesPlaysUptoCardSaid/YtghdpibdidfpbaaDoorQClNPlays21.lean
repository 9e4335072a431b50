/- names: Near. -/
import Derived.Test.YtghdpibdidfpbaaDoorQClNPlays15
import Derived.Test.YtghdpibdidfpbaaDoorQClNPlays19
import Derived.Test.YtghdpibdidfpbaaDoorQClNPlays20
namespace Go.Vc
open Go Go.Proofs
set_option maxRecDepth 10000
variable {w : World}
theorem Nc.mapI {B : Nat} {w w' : World} (h : Nc B w w') {m : Nat} {f : Int → Option Value} (k : MapI w m f) : MapI w' m f := by
  obtain ⟨es, c, h1, h2⟩ := k
  exact ⟨es, c, h.at_ m _ h1 (.inr rfl), h2⟩
theorem Keeps.ne_map {D l : Nat} {r : Loop} {Fp : List Nat} {w W : World} (h : Keeps D l r Fp w W) {m : Nat} {f : Int → Option Value} (hb : MapI W m f) : m ≠ l ∧ m ≠ D := by
  obtain ⟨es, c, h1, h2⟩ := hb
  constructor
  · rintro rfl; have := h.loop; rw [h1] at this; cases this
  · rintro rfl; have := h.shut; rw [h1] at this; cases this
theorem Keeps.neB {D l : Nat} {r : Loop} {Fp : List Nat} {w W : World} (h : Keeps D l r Fp w W) {b : Nat} {L : List Value} {T : TypeId} (hb : Blk W b L T) : b ≠ l ∧ b ≠ D := by
  constructor
  · rintro rfl; have := h.loop; unfold Blk at hb; rw [hb] at this; cases this
  · rintro rfl; have := h.shut; unfold Blk at hb; rw [hb] at this; cases this
theorem Keeps.neO {D l : Nat} {r : Loop} {Fp : List Nat} {w W : World} (h : Keeps D l r Fp w W) {T : TypeId} {size : Nat} {ad : Option Addr} {n cap : Nat} {xs : List Value} (ho : OwnS W T size ad n cap xs) : l ∉ blkOf ad ∧ D ∉ blkOf ad := by
  cases ad with
  | none => simp [blkOf]
  | some ad =>
    obtain ⟨_, _, _, _, junk, h5, _⟩ := ho.2
    have := h.neB h5
    simp only [blkOf, List.mem_singleton]
    exact ⟨Ne.symm this.1, Ne.symm this.2⟩
/-! ### the comparing function -/
theorem nearCmp_ret {b8 m : Nat} {f : Int → Option Value} {d : Nat → Int} {P : Nat → Prop} {Q : List Nat} (h8 : Blk w b8 [.map (some m)] 63) (hm : MapI w m f) (hf : ∀ x, P x → f x = some (I (d x))) (hd : ∀ x, 0 ≤ d x ∧ d x ≤ 256) (h8Q : b8 ∉ Q) (hmQ : m ∉ Q) : CmpK 24 [ptr b8] d P Q w := by
  intro W hk x y hx hy
  have h8' := hk.blk h8Q h8
  have hm' := hm.kp hk hmQ
  have hdx := hd x
  have hdy := hd y
  refine enter Tryd.call24 Tryd.func24 rfl rfl rfl rfl ?_
  (repeat first|refine zA ?_|refine zg ?_|refine zo rfl rfl trivial ?_|refine zn ?_)
  refine o_load rfl h8' rfl rfl rfl rfl rfl ?_
  (repeat refine zo rfl rfl trivial ?_)
  refine o_lookI (I (d x)) rfl rfl hm' (by rw [hf x hx]; rfl) rfl rfl rfl rfl rfl rfl ?_
  refine o_load rfl h8' rfl rfl rfl rfl rfl ?_
  (repeat refine zo rfl rfl trivial ?_)
  refine o_lookI (I (d y)) rfl rfl hm' (by rw [hf y hy]; rfl) rfl rfl rfl rfl rfl rfl ?_
  (repeat first|refine zo rfl rfl (by first|exact trivial|(simp only[AllP];omega)) ?_|refine zn ?_|refine zr ?_)
  exact ⟨_, rfl, d x - d y, rfl, by omega, rfl⟩
/-! ### plain -/
def nrOut (name : Str) (most : Int) (pre : List (Nat × Str)) : List Nat := (pre.filter fun x => decide ((dist name x.2 : Int) ≤ most)).map (·.1)
/-- the numbers of the names that are near enough, rising -/
def nearOf (l : List Str) (name : Str) (most : Int) : List Nat := nrOut name most (nums l)
/-- how far a name is -/
def nearD (l : List Str) (name : Str) (i : Nat) : Int := dist name (l.getD i [])
theorem nrOut_snoc (name : Str) (most : Int) (pre : List (Nat × Str)) (x : Nat × Str) : nrOut name most (pre ++ [x]) = nrOut name most pre ++ (if (dist name x.2 : Int) ≤ most then [x.1] else []) := by
  unfold nrOut
  rw [List.filter_append, List.map_append]
  congr 1
  by_cases h : (dist name x.2 : Int) ≤ most <;> simp [h]
theorem nrOut_le (name : Str) (most : Int) (pre : List (Nat × Str)) : (nrOut name most pre).length ≤ pre.length := by
  unfold nrOut; rw [List.length_map]; exact List.length_filter_le _ _
theorem nums_inc {l : List Str} : ((nums l).map (·.1)).Pairwise (· < ·) := by
  unfold nums
  rw [List.map_map]
  exact List.pairwise_map.2 (List.pairwise_lt_range.imp fun h => h)
theorem nums_mem {l : List Str} {x : Nat × Str} (h : x ∈ nums l) : x.1 < l.length ∧ l.getD x.1 [] = x.2 := by
  unfold nums at h
  obtain ⟨i, hi, rfl⟩ := List.mem_map.1 h
  exact ⟨List.mem_range.1 hi, rfl⟩
theorem nearOf_inc {l : List Str} {name : Str} {most : Int} : (nearOf l name most).Pairwise (· < ·) := by
  exact List.Pairwise.sublist ((List.filter_sublist).map _) (nums_inc (l := l))
theorem nearOf_mem {l : List Str} {name : Str} {most : Int} {i : Nat} : i ∈ nearOf l name most ↔ i < l.length ∧ (dist name (l.getD i []) : Int) ≤ most := by
  unfold nearOf nrOut nums
  constructor
  · intro h
    obtain ⟨x, hx, rfl⟩ := List.mem_map.1 h
    obtain ⟨h1, h2⟩ := List.mem_filter.1 hx
    obtain ⟨i, hi, rfl⟩ := List.mem_map.1 h1
    exact ⟨List.mem_range.1 hi, of_decide_eq_true h2⟩
  · rintro ⟨h1, h2⟩
    exact List.mem_map.2 ⟨(i, l.getD i []), List.mem_filter.2 ⟨List.mem_map.2 ⟨i, List.mem_range.2 h1, rfl⟩, decide_eq_true h2⟩, rfl⟩
/-! ### the walk -/
structure NrI (w : World) (B b4 b5 b7 b8 m : Nat) (name : Str) (most : Int) (pre : List (Nat × Str)) (W : World) (ad : Option Addr) (cap : Nat) (f : Int → Option Value) : Prop where
  n4 : Blk W b4 [S name] 9
  n5 : Blk W b5 [I most] 3
  n7 : Blk W b7 [.slice ad (nrOut name most pre).length cap] 34
  n8 : Blk W b8 [.map (some m)] 63
  mp : MapI W m f
  fr : ∀ y, y ∈ pre → f (y.1 : Int) = some (I (dist name y.2 : Int))
  own : OwnS W 3 1 ad (nrOut name most pre).length cap ((nrOut name most pre).map encJ)
  kp : Kp [] w W
  low : ∀ b, b ∈ [b4, b5, b7, b8, m] → w.heap.size ≤ b ∧ b < B
  new : ∀ b, b ∈ blkOf ad → B ≤ b
  ne7 : b4 ≠ b7 ∧ b5 ≠ b7 ∧ b8 ≠ b7 ∧ m ≠ b7
  nem : b4 ≠ m ∧ b5 ≠ m ∧ b8 ≠ m
variable {B b4 b5 b7 b8 m : Nat} {name : Str} {most : Int} {pre : List (Nat × Str)} {W : World} {ad : Option Addr} {cap : Nat} {f : Int → Option Value}
theorem NrI.nc {W' : World} (h : NrI w B b4 b5 b7 b8 m name most pre W ad cap f) (hn : Nc B W W') (hB : w.heap.size ≤ B) : NrI w B b4 b5 b7 b8 m name most pre W' ad cap f :=
  ⟨hn.blk h.n4, hn.blk h.n5, hn.blk h.n7, hn.blk h.n8, hn.mapI h.mp, h.fr, hn.own h.own, hn.kp h.kp hB, h.low, h.new, h.ne7, h.nem⟩
theorem NrI.kp0 {W' : World} (h : NrI w B b4 b5 b7 b8 m name most pre W ad cap f) (hn : Kp [] W W') : NrI w B b4 b5 b7 b8 m name most pre W' ad cap f :=
  ⟨hn.blk (by simp) h.n4, hn.blk (by simp) h.n5, hn.blk (by simp) h.n7, hn.blk (by simp) h.n8, h.mp.kp hn (by simp), h.fr, h.own.kp hn (by simp), h.kp.trans hn, h.low, h.new, h.ne7, h.nem⟩
set_option maxHeartbeats 3200000 in
theorem near_ret {pv : Value} {l : List Str} {name : Str} {most : Int} (hl : l.length ≤ 131072) (hAll : ∀ w', Kp [] w w' → Ret Tryd.prog 22 [pv] w' (fun v w'' => ∃ Fp, NmSeq w'' v Fp l ∧ Kp [] w' w'' ∧ ∀ b, b ∈ Fp → w'.heap.size ≤ b)) (hp : ∃ p, pv = .pointer p) (hmost : -9223372036854775808 ≤ most ∧ most ≤ 9223372036854775807) :
    Ret Tryd.prog 11 [pv, S name, I most] w (fun v w' => ∃ ad cap out, v = .slice ad out.length cap ∧ NewS w 3 w' ad out.length cap (out.map encJ) ∧ out.Perm (nearOf l name most) ∧ Srt (nearD l name) out) := by
  obtain ⟨p, rfl⟩ := hp
  refine enterM Tryd.call11 Tryd.func11 rfl rfl rfl rfl ?_
  refine m_seq (m_of ?_)
  (repeat refine zg ?_)
  refine o_box rfl rfl rfl ?_
  intro b4 w1 hb4 hu1
  refine o_box rfl rfl rfl ?_
  intro b5 w2 hb5 hu2
  (repeat first|refine zo rfl rfl trivial ?_|refine zn ?_)
  refine m_seq (m_of ?_)
  (repeat refine zg ?_)
  refine o_alloc rfl rfl rfl rfl ?_
  intro b7 w3 hb7 hu3
  (repeat refine zn ?_)
  refine m_seq (m_of ?_)
  (repeat refine zg ?_)
  refine o_makeMapI rfl rfl ?_
  intro m w4 hm4 k34 hs4 hM4
  refine o_alloc rfl rfl rfl rfl ?_
  intro b8 w5 hb8 hu5
  refine o_store rfl hu5.blk (by decide) rfl rfl rfl rfl rfl rfl ?_
  intro w6 hu6
  have s1 := hu1.size
  have s2 := hu2.size
  have s3 := hu3.size
  have s5 := hu5.size
  have s6 := hu6.size
  have t1 := hu1.lt
  have t2 := hu2.lt
  have t3 := hu3.lt
  have t5 := hu5.lt
  have k4 : Kp [] w w4 := ((hu1.kp [] (.inr (by omega))).trans (hu2.kp [] (.inr (by omega)))).trans ((hu3.kp [] (.inr (by omega))).trans k34)
  have k46 : Kp [] w4 w6 := (hu5.kp [] (.inr (by omega))).since (hu6.kp [b8] (.inl (by simp))) (by simp; omega)
  have n4 : Blk w6 b4 [S name] 9 := k46.blk (by simp) (k34.blk (by simp) (hu3.kept (by omega) (hu2.kept (by omega) hu1.blk)))
  have n5 : Blk w6 b5 [I most] 3 := k46.blk (by simp) (k34.blk (by simp) (hu3.kept (by omega) hu2.blk))
  have n7 : Blk w6 b7 [.slice none 0 0] 34 := k46.blk (by simp) (k34.blk (by simp) hu3.blk)
  have n8 : Blk w6 b8 [.map (some m)] 63 := hu6.blk
  have nm := hM4.kp k46 (by simp)
  have k6 : Kp [] w w6 := k4.trans k46
  (repeat refine zn ?_)
  refine m_seq (m_seq (m_of ?_))
  (repeat first|refine zg ?_|refine zo rfl rfl trivial ?_)
  refine o_call (hAll w6 k6) rfl rfl rfl ?_
  rintro v w7 ⟨Fp, ⟨ff, lb, rfl, hI⟩, k67, hFp⟩
  have s7 := k67.size
  have g0 : NrI w w7.heap.size b4 b5 b7 b8 m name most [] w7 none 0 (fun _ => none) := ⟨k67.blk (by simp) n4, k67.blk (by simp) n5, k67.blk (by simp) n7, k67.blk (by simp) n8, nm.kp k67 (by simp), by simp, ownS_nil _ _ _, k6.trans k67,
    fun b hb => by simp only [List.mem_cons, List.not_mem_nil, or_false] at hb; omega, by simp [blkOf], by omega, by omega⟩
  (repeat refine zn ?_)
  refine m_block ?_
  refine m_range hI [] (fun pre W => ∃ ad cap f, NrI w w7.heap.size b4 b5 b7 b8 m name most pre W ad cap f) (fun c pre W => False) rfl rfl (fun _ => rfl) ?_ ?_ ?_ ?_ ?_ ?_
  · rintro pre W1 W2 ⟨ad, cap, f, hg⟩ hnc
    exact ⟨ad, cap, f, hg.nc hnc (by omega)⟩
  · rintro c pre W1 W2 hf hnc
    exact hf
  · exact ⟨none, 0, _, g0⟩
  · intro D ll r pre x post W hx' hD hl
    (repeat first|refine zA ?_|refine zg ?_|refine zo rfl rfl trivial ?_|refine zn ?_)
    refine ⟨rfl, ?_⟩
    rintro W2 ⟨ad, cap, f, hg⟩ hkeep
    obtain ⟨xn, xt⟩ := x
    obtain ⟨hx1, hx2⟩ := nums_split hx'
    dsimp only at hx1 hx2
    subst hx1
    have hpl : pre.length + 1 + post.length = l.length := by rw [← nums_length (l := l), hx']; simp; omega
    have hD8 : ∀ {b : Nat}, b ∈ [b4, b5, b7, b8, m] → b ∉ Fp := fun {b} hb hF => by
      have := hFp b hF
      have := (hg.low b hb).2
      simp only [List.mem_cons, List.not_mem_nil, or_false] at hb
      omega
    have hDad : ∀ b, b ∈ blkOf ad → b ∉ Fp := fun b hb hF => by
      have := hI.1 b hF
      have := hg.new b hb
      omega
    have hlow := hg.low
    simp only [List.forall_mem_cons, List.not_mem_nil, false_implies, implies_true, and_true] at hlow
    have hmW : m < W2.heap.size := hg.mp.lt
    (repeat refine zb ?_)
    refine r_seq ?_
    refine r_mix (fun W' => Blk W' b4 [S name] 9 ∧ Blk W' b8 [.map (some m)] 63) [(0, false), (1, false), (2, false), (3, false), (4, true), (5, true)] follows_mixed (by kernel_rfl) (by kernel_rfl) (by kernel_rfl) ⟨((Sm.drew W2).kp []).blk (by simp) hg.n4, ((Sm.drew W2).kp []).blk (by simp) hg.n8⟩ ?_
    have kd := (Sm.drew W2).kp []
    generalize ({ W2 with drawn := W2.drawn + 1 } : World) = wd at kd ⊢
    have gd := hg.kp0 kd
    have kpd := hkeep.kp (fun b hb => Nat.lt_of_lt_of_le (hI.1 b hb) (by have := (Array.getElem?_eq_some_iff.1 hkeep.loop).1; omega)) kd (by simp) (by simp) (by simp)
    refine x_load (b := b8) (off := 0) (v := .map (some m)) rfl rfl (fun W' h' => Blk.cell h'.2 rfl) rfl rfl rfl rfl ?_
    (repeat refine xo rfl rfl trivial ?_)
    refine x_load (b := b4) (off := 0) (v := S name) rfl rfl (fun W' h' => Blk.cell h'.1 rfl) rfl rfl rfl rfl ?_
    (repeat refine xo rfl rfl trivial ?_)
    refine x_act rfl ?_
    refine o_call (distance_ret name xt wd) rfl rfl rfl ?_
    rintro v W3 ⟨rfl, k3⟩
    have g3 := gd.kp0 k3
    refine o_nil ⟨.inr ⟨g3.n4, g3.n8⟩, ?_⟩
    refine x_act rfl ?_
    refine o_mapSet (v := I (dist name xt : Nat)) rfl rfl rfl g3.mp rfl rfl rfl rfl ?_
    intro W4 hu4
    refine o_nil ⟨.inl (by kernel_rfl), ?_⟩
    (repeat refine xn ?_)
    have kk4 : Kp [m] W3 W4 := hu4.kp [m] (.inl (by simp))
    have kp3 := kpd.kp (fun b hb => Nat.lt_of_lt_of_le (hI.1 b hb) (by have := (Array.getElem?_eq_some_iff.1 kpd.loop).1; omega)) k3 (by simp) (by simp) (by simp)
    have hmne := kp3.ne_map g3.mp
    have kp4 := kp3.kp (fun b hb => Nat.lt_of_lt_of_le (hI.1 b hb) (by have := (Array.getElem?_eq_some_iff.1 kp3.loop).1; omega)) kk4 (by simp; exact Ne.symm hmne.1) (by simp; exact Ne.symm hmne.2) (fun b hb hm => by simp only [List.mem_singleton] at hm; subst hm; exact hD8 (by simp) hb)
    have hne7 := g3.ne7
    have hnem := g3.nem
    have a4 : Blk W4 b4 [S name] 9 := kk4.blk (by simp; omega) g3.n4
    have a5 : Blk W4 b5 [I most] 3 := kk4.blk (by simp; omega) g3.n5
    have a7 : Blk W4 b7 [.slice ad (nrOut name most pre).length cap] 34 := kk4.blk (by simp; omega) g3.n7
    have a8 : Blk W4 b8 [.map (some m)] 63 := kk4.blk (by simp; omega) g3.n8
    have aow : OwnS W4 3 1 ad (nrOut name most pre).length cap ((nrOut name most pre).map encJ) := g3.own.kp kk4 (fun b hb hm => by simp only [List.mem_singleton] at hm; subst hm; have := g3.new b hb; omega)
    have akp : Kp [] w W4 := g3.kp.since kk4 (by simp; omega)
    have hfx : upF f (pre.length : Int) (some (I (dist name xt : Nat))) (pre.length : Int) = some (I (dist name xt : Nat)) := by unfold upF; rw [if_pos rfl]
    have afr : ∀ y, y ∈ pre ++ [(pre.length, xt)] → upF f (pre.length : Int) (some (I (dist name xt : Nat))) (y.1 : Int) = some (I (dist name y.2 : Int)) := fun y hy => by
      rcases List.mem_append.1 hy with h | h
      · obtain ⟨p1, p2, hpp⟩ := List.append_of_mem h
        have hy1 := (nums_split (l := l) (pre := p1) (post := p2 ++ (pre.length, xt) :: post) (x := y) (by rw [hx', hpp]; simp)).1
        have hlt : p1.length < pre.length := by rw [hpp]; simp
        unfold upF
        rw [if_neg (by omega)]
        exact g3.fr y h
      · simp only [List.mem_singleton] at h; subst h; simp [upF]
    have hdl := dist_le' name xt
    (repeat first|refine zA ?_|refine zg ?_)
    refine o_load rfl a8 rfl rfl rfl rfl rfl ?_
    (repeat refine zo rfl rfl trivial ?_)
    refine o_lookI (I (dist name xt : Nat)) rfl rfl hu4.at_ (by rw [hfx]; rfl) rfl rfl rfl rfl rfl rfl ?_
    refine o_load rfl a5 rfl rfl rfl rfl rfl ?_
    (repeat first|refine zo rfl rfl trivial ?_|refine zn ?_)
    have hsn := nrOut_snoc name most pre (pre.length, xt)
    refine r_if rfl (fun hc => ?_) (fun hc => ?_)
    · rw [if_pos hc] at hsn
      have hpl2 := nrOut_le name most pre
      (repeat refine zg ?_)
      refine o_load rfl a7 rfl rfl rfl rfl rfl ?_
      (repeat refine zo rfl rfl trivial ?_)
      refine o_buildSlice [I (pre.length : Int)] rfl (by simp [Value.oneCell']) rfl (by decide) (by decide) rfl rfl rfl rfl rfl ?_
      intro b9 W5 hb9 hu5'
      have kk5 : Kp [] W4 W5 := hu5'.kp [] (.inr (by omega))
      refine o_append1 rfl rfl (aow.kp kk5 (by simp)) hu5'.blk rfl rfl rfl rfl (by simp only [maxLen]; omega) (by omega) rfl rfl ?_
      intro ad6 cap6 W6 ho6 kk6 hnew6
      have b7' : Blk W6 b7 [.slice ad (nrOut name most pre).length cap] 34 := kk6.blk (fun hb => by have := g3.new b7 hb; omega) (kk5.blk (by simp) a7)
      refine o_store rfl b7' (by simp) rfl rfl rfl rfl rfl rfl ?_
      intro W7 hu7
      have hs5 := hu5'.size
      have hb7W := g3.n7.lt
      have hs4 := hu4.size
      have hll := (Array.getElem?_eq_some_iff.1 kp4.loop).1
      have had6 : ∀ b, b ∈ blkOf ad6 → w7.heap.size ≤ b := fun b hb => by
        rcases hnew6 b hb with h | h
        · exact g3.new b h
        · omega
      have kall : Kp (b7 :: blkOf ad) W4 W7 := ((kk5.mono (S' := b7 :: blkOf ad) (by simp)).after kk6 (fun b hb => .inl (by simp [hb]))).after (hu7.kp [b7] (.inl (by simp))) (fun b hb => .inl (by simp at hb; simp [hb]))
      have nad : ∀ {b : Nat}, b ∈ [b4, b5, b7, b8, m] → b ∉ blkOf ad := fun {b} hb h => by have := (g3.low b hb).2; have := g3.new b h; omega
      have hbx6 : b7 ∉ blkOf ad6 := fun hb => by have := had6 b7 hb; omega
      have hlen : (nrOut name most pre).length + 1 = (nrOut name most (pre ++ [(pre.length, xt)])).length := by rw [hsn]; simp
      have hmap : (nrOut name most pre).map encJ ++ [I (pre.length : Int)] = (nrOut name most (pre ++ [(pre.length, xt)])).map encJ := by rw [hsn]; simp [encJ]
      (repeat refine zn ?_)
      refine ⟨⟨ad6, cap6, _, ?_, ?_, ?_, ?_, ?_, afr, ?_, ?_, g3.low, had6, g3.ne7, g3.nem⟩, ?_⟩
      · exact kall.blk (by simp only [List.mem_cons, not_or]; exact ⟨by omega, nad (by simp)⟩) a4
      · exact kall.blk (by simp only [List.mem_cons, not_or]; exact ⟨by omega, nad (by simp)⟩) a5
      · rw [← hlen]; exact hu7.blk
      · exact kall.blk (by simp only [List.mem_cons, not_or]; exact ⟨by omega, nad (by simp)⟩) a8
      · exact hu4.at_.kp kall (by simp only [List.mem_cons, not_or]; exact ⟨by omega, nad (by simp)⟩)
      · rw [← hlen, ← hmap]; exact ho6.upd hu7 hbx6
      · exact akp.since kall (fun b hb => by
          rcases List.mem_cons.1 hb with rfl | hb
          · omega
          · have := g3.new b hb; omega)
      · have hne := kp4.neO aow
        have hne1 := kp4.neB a7
        refine kp4.kp (fun b hb => by have := hI.1 b hb; omega) kall ?_ ?_ ?_
        · simp only [List.mem_cons, not_or]; exact ⟨Ne.symm hne1.1, hne.1⟩
        · simp only [List.mem_cons, not_or]; exact ⟨Ne.symm hne1.2, hne.2⟩
        · intro b hb hm
          rcases List.mem_cons.1 hm with rfl | hm
          · exact hD8 (by simp) hb
          · exact hDad b hm hb
    · rw [if_neg hc, List.append_nil] at hsn
      (repeat refine zk ?_)
      refine ⟨⟨ad, cap, _, a4, a5, ?_, a8, hu4.at_, afr, ?_, akp, g3.low, g3.new, g3.ne7, g3.nem⟩, kp4⟩
      · rw [hsn]; exact a7
      · rw [hsn]; exact aow
  · rintro D W hD ⟨ad, cap, f, hg⟩ hsh
    refine m_seq (m_of ?_)
    (repeat refine zg ?_)
    refine o_load rfl hg.n7 rfl rfl rfl rfl rfl ?_
    (repeat refine zo rfl rfl trivial ?_)
    have nad : ∀ {b : Nat}, b ∈ [b4, b5, b7, b8, m] → b ∉ blkOf ad := fun {b} hb h => by have := (hg.low b hb).2; have := hg.new b h; omega
    have hcmp := nearCmp_ret (d := nearD l name) (P := fun i => i < l.length) (Q := blkOf ad) hg.n8 hg.mp (fun i hi => by
      have hm : (i, l.getD i []) ∈ nums l := List.mem_map.2 ⟨i, List.mem_range.2 hi, rfl⟩
      exact hg.fr _ hm) (fun i => by have := dist_le' name (l.getD i []); unfold nearD; omega) (nad (by simp)) (nad (by simp))
    have hlen := nrOut_le name most (nums l)
    rw [nums_length] at hlen
    refine o_call (sortStable_ret (xs := nearOf l name most) hg.own hcmp (fun i hi => (nearOf_mem.1 hi).1) nearOf_inc (by omega)) rfl rfl rfl ?_
    rintro v W8 ⟨out, hperm, hsrt, hown8, hk8⟩
    have hDn : D ∉ blkOf ad := fun hb => by
      have hx := hg.own
      cases ad with
      | none => simp [blkOf] at hb
      | some a =>
        obtain ⟨_, _, _, _, junk, h5, _⟩ := hx.2
        simp [blkOf] at hb
        subst hb
        unfold Blk at h5; rw [h5] at hsh; cases hsh
    have hsh8 : W8.heap[D]? = some (.deferred (some [])) := (hk8.at_ D (Array.getElem?_eq_some_iff.1 hsh).1 hDn).trans hsh
    have h78 : Blk W8 b7 [.slice ad (nrOut name most (nums l)).length cap] 34 := hk8.blk (nad (by simp)) hg.n7
    (repeat refine zn ?_)
    refine m_seq (m_of ?_)
    (repeat refine zg ?_)
    refine o_load rfl h78 rfl rfl rfl rfl rfl ?_
    (repeat first|refine zo rfl rfl trivial ?_|refine zn ?_)
    refine m_ret ?_
    refine ⟨_, rfl, hsh8, ?_⟩
    intro W' hu
    have hnc : Nc w7.heap.size W8 W' := hu.nc (by omega) (fun x hx => by rw [hsh8] at hx; cases hx; rfl)
    have hol : (nrOut name most (nums l)).length = out.length := hperm.length_eq.symm
    have hk8' : Kp [] w W8 := hg.kp.since hk8 (fun b hb => by have := hg.new b hb; omega)
    exact ⟨ad, cap, out, by rw [hol], ⟨by rw [← hol]; exact hnc.own hown8, hnc.kp hk8' (by omega), fun b hb => by have := hg.new b hb; omega⟩, hperm, hsrt⟩
  · rintro D c pre post W hD _ hx' hf hsh
    exact hf.elim
end Go.Vc
