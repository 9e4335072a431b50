/- slices.SortFunc at []int, out of the shelf's contract. -/
import Derived.Test.YtghdpibdidfpbaaDoorQClNPlays15
import Derived.Test.YtghdpibdidfpbaaDoorQClNPlays25
import Derived.WalkKit
import Derived.ProofKit
import Derived.Test.YtghdpibdidfpbaaDoorQClNPlays21
namespace Go.Vc
open Go Go.Proofs Go.Shelf Go.RowKit Go.Lib Go.Sort
set_option maxRecDepth 10000
variable {w : World}
theorem put_row1 {α : Type} [Inhabited α] {enc : α → Value} {b n : Nat} {xs junk : List Value} {T : TypeId} {d : Array α} {os : Array Obj} (hB : Blk w b (xs ++ junk) T) (hs : d.size = xs.length) :
    Blk (grow (putRow enc (Go.Sort.ahead w n) b 0 d) os) b (d.toList.map enc ++ junk) T ∧ Kp [b] w (grow (putRow enc (Go.Sort.ahead w n) b 0 d) os) := by
  have hlt := hB.lt
  have hsz : (grow (putRow enc (Go.Sort.ahead w n) b 0 d) os).heap.size = w.heap.size + os.size := by simp [grow, putRow, mapBlock, Go.Sort.ahead]
  have hat : ∀ k, k < w.heap.size → (grow (putRow enc (Go.Sort.ahead w n) b 0 d) os).heap[k]? = (w.heap.modify b (onCells (putCells enc 0 d)))[k]? := fun k hk => by
    show (w.heap.modify b (onCells (putCells enc 0 d)) ++ os)[k]? = _
    rw [Array.getElem?_append_left (by simpa using hk)]
  refine ⟨?_, rfl, rfl, rfl, by omega, fun k hk hne => ?_⟩
  · unfold Blk at hB ⊢
    rw [hat b hlt, Array.getElem?_modify, if_pos rfl, hB]
    simp only [Option.map_some, onCells, Option.some.injEq, Obj.cells.injEq, and_true]
    apply Array.ext
    · simp [putCells, hs]
    · intro i h1 h2
      simp only [putCells, Array.getElem_mapIdx]
      by_cases hi : i < d.size
      · rw [if_pos ⟨by omega, by omega⟩]
        simp [hi]
      · rw [if_neg (by omega)]
        simp only [List.getElem_toArray]
        rw [List.getElem_append_right (by omega), List.getElem_append_right (by simpa using hi)]
        simp [hs]
  · rw [hat k hk, Array.getElem?_modify, if_neg (by simpa [eq_comm] using hne)]
/-- a number below N -/
abbrev Below_ (N : Nat) := { i : Nat // i < N }
theorem sortFunc_ret {N : Nat} (hN : 0 < N) {cf : Below_ N → Below_ N → Int} (hO : @SWO (Below_ N) (@ltOf (Below_ N) cf)) {g : FuncId} {lb : List Value} {ad : Option Addr} {n cap : Nat} {xs : List (Below_ N)} (hE : Enters Tryd.prog g) (h : Dat w ad n cap (xs.map (·.1))) (hn1 : n ≤ 1073741824)
    (hcl : ∀ W, Kp (blkOf ad) w W → ∀ x y : Below_ N, Calls Tryd.prog g (#[I (x.1 : Int), I (y.1 : Int)] ++ ⟨lb⟩) W fun e w' => e = .returned (I (cf x y)) ∧ ∃ q os', w' = grow (W.drewN q) os') :
    Ret Tryd.prog 45 [.slice ad n cap, fv g lb] w (fun _ w' => ∃ s' : List (Below_ N), s'.Perm xs ∧ s'.Pairwise (fun a b => ltOf cf b a = false) ∧ Dat w' ad n cap (s'.map (·.1)) ∧ Kp (blkOf ad) w w') := by
  haveI : Inhabited (Below_ N) := ⟨⟨0, hN⟩⟩
  refine ⟨Tryd.call45, ?_⟩
  have hlen := h.len
  have hsm := h.small
  simp only [List.length_map] at hlen
  cases ad with
  | none =>
    have h0 : n = 0 := h.2.1
    subst h0
    have hnil : xs = [] := List.eq_nil_of_length_eq_zero hlen
    subst hnil
    refine (AnyF.slices_SortFunc_none { Tryd.laySort with } none cap (fv g lb) w).mono ?_
    rintro e w' ⟨rfl, rfl⟩
    exact ⟨_, rfl, [], .refl _, .nil, h, Kp.refl _ _⟩
  | some ad =>
    obtain ⟨b, off, spot⟩ := ad
    obtain ⟨h1, h2, h3, h4, junk, h5, h6⟩ := h.2
    dsimp only at h1 h2 h5
    subst h1 h2
    have hsz : xs.toArray.size = n := by simp [hlen]
    have hmap : (xs.map (·.1)).map encJ = xs.map (fun x => encJ x.1) := by simp
    have hH : Holds (fun x : Below_ N => encJ x.1) w b 0 xs.toArray := by
      intro j hj
      have hj' : j < xs.length := by simpa using hj
      rw [Nat.zero_add]
      refine ⟨h5.cell ?_, h5.free⟩
      rw [List.getElem?_append_left (by simpa using hj'), hmap, List.getElem?_map, List.getElem?_eq_getElem hj']
      simp [hj']
    have hbw : b < w.heap.size := h5.lt
    have hworld : ∀ (m : Nat) (os : Array Obj) (dk : Array (Below_ N)), dk.size = n → Blk (sortWorld (fun x : Below_ N => encJ x.1) w b 0 m dk os) b (dk.toList.map (fun x => encJ x.1) ++ junk) 3 ∧ Kp [b] w (sortWorld (fun x : Below_ N => encJ x.1) w b 0 m dk os) := fun m os dk hdk => put_row1 h5 (by simp [hdk, hlen])
    have hcon := Any.slices_SortFunc Tryd.laySort (fun x : Below_ N => encJ x.1) (fun _ => rfl) cf hO g ⟨lb⟩ b 0 cap xs.toArray w (fun args w => hE args w) (fun m os dk hdk x y => hcl _ (by
      have := (hworld m os dk (by rw [hdk, hsz])).2
      exact this.mono (by simp [blkOf])) x y) hH hbw (by rw [hsz]; omega)
    rw [hsz] at hcon
    refine Calls.mono hcon ?_
    rintro e w' ⟨rfl, d', m, os, hp, hs, rfl⟩
    obtain ⟨l', rfl⟩ : ∃ l' : List (Below_ N), d' = l'.toArray := ⟨d'.toList, rfl⟩
    have hl' : l'.length = xs.length := by have := hp.1; simpa using this
    have hperm : xs.Perm l' := by
      have := hp.2.2
      simp at this
      rw [List.take_of_length_le (by omega), List.take_of_length_le (by omega)] at this
      exact this.symm
    obtain ⟨hB, hk⟩ := hworld m os l'.toArray (by simp [hl', hlen])
    refine ⟨_, rfl, l', hperm.symm, ?_, ?_, hk.mono (by simp [blkOf])⟩
    · rw [List.pairwise_iff_getElem]
      intro i j hi hj hij
      have := hs i j (Nat.zero_le _) hij (by omega)
      simpa [hi, hj] using this
    · refine ⟨by simp [hl', hlen], rfl, rfl, h3, h4, junk, ?_, ?_⟩
      · have : (l'.map (·.1)).map encJ = l'.toArray.toList.map (fun x => encJ x.1) := by simp
        rw [this]; exact hB
      · rw [List.length_append] at h6 ⊢
        simp at h6 ⊢; omega
end Go.Vc
/- names: Sorted. -/
namespace Go.Vc
open Go Go.Proofs
set_option maxRecDepth 10000
variable {w : World}
theorem sortedCmp_ret {W : World} {b1 p b off len cap : Nat} {mm : Option Nat} {l : List Str} {T : TypeId} (h1 : Blk W b1 [ptr p] T) (hh : Blk W p [.slice (some ⟨b, off, none⟩) len cap, .map mm] 54) (hlen : len = l.length)
    (hc : ∀ i v, (l.map S)[i]? = some v → W.cell? ⟨b, off + i, none⟩ = some v) {x y : Nat} (hx : x < l.length) (hy : y < l.length) :
    Ret Tryd.prog 46 [I x, I y, ptr b1] W (fun v w' => v = I (cmpI (l.getD x []) (l.getD y [])) ∧ w' = W.drewN 1) := by
  subst hlen
  refine enter Tryd.call46 Tryd.func46 rfl rfl rfl rfl ?_
  (repeat first|refine zA ?_|refine zg ?_|refine zo rfl rfl trivial ?_|refine zn ?_)
  refine r_seq ?_
  refine r_mix (fun W' => Blk W' b1 [ptr p] T ∧ Blk W' p [.slice (some ⟨b, off, none⟩) l.length cap, .map mm] 54 ∧ ∀ i v, (l.map S)[i]? = some v → W'.cell? ⟨b, off + i, none⟩ = some v) [(0, false), (1, false), (2, false), (3, false), (4, false), (5, false), (6, false), (7, false), (8, false), (9, false), (10, false), (11, false), (12, false), (13, false), (14, true), (15, false)] follows_mixed (by kernel_rfl) (by kernel_rfl) (by kernel_rfl) ⟨h1, hh, hc⟩ ?_
  have hd : ({ W with drawn := W.drawn + 1 } : World) = W.drewN 1 := rfl
  have h1' : Blk (W.drewN 1) b1 [ptr p] T := h1
  have hh' : Blk (W.drewN 1) p [.slice (some ⟨b, off, none⟩) l.length cap, .map mm] 54 := hh
  have hc' : ∀ i v, (l.map S)[i]? = some v → (W.drewN 1).cell? ⟨b, off + i, none⟩ = some v := hc
  rw [hd]
  have gx : (l.map S)[x]? = some (S (l.getD x [])) := by rw [List.getElem?_map]; simp [hx]
  have gy : (l.map S)[y]? = some (S (l.getD y [])) := by rw [List.getElem?_map]; simp [hy]
  refine x_load (b := b1) (off := 0) (v := ptr p) rfl rfl (fun W' h' => Blk.cell h'.1 rfl) rfl rfl rfl rfl ?_
  (repeat refine xo rfl rfl trivial ?_)
  refine x_load (b := p) (off := 0) (v := .slice (some ⟨b, off, none⟩) l.length cap) rfl rfl (fun W' h' => Blk.cell h'.2.1 rfl) rfl rfl rfl rfl ?_
  (repeat refine xo rfl rfl (by first|exact trivial|(simp only[AllP];omega)) ?_)
  refine x_load (b := b) (off := off + x) (v := S (l.getD x [])) rfl rfl (fun W' h' => h'.2.2 x _ gx) rfl rfl rfl rfl ?_
  refine x_load (b := b1) (off := 0) (v := ptr p) rfl rfl (fun W' h' => Blk.cell h'.1 rfl) rfl rfl rfl rfl ?_
  (repeat refine xo rfl rfl trivial ?_)
  refine x_load (b := p) (off := 0) (v := .slice (some ⟨b, off, none⟩) l.length cap) rfl rfl (fun W' h' => Blk.cell h'.2.1 rfl) rfl rfl rfl rfl ?_
  (repeat refine xo rfl rfl (by first|exact trivial|(simp only[AllP];omega)) ?_)
  refine x_load (b := b) (off := off + y) (v := S (l.getD y [])) rfl rfl (fun W' h' => h'.2.2 y _ gy) rfl rfl rfl rfl ?_
  refine x_act rfl ?_
  refine o_call (compareS_ret _ _ _) rfl rfl rfl ?_
  rintro v W3 ⟨rfl, rfl⟩
  refine o_nil ⟨.inr ⟨h1', hh', hc'⟩, ?_⟩
  (repeat first|refine xo rfl rfl trivial ?_|refine xn ?_)
  (repeat refine zr ?_)
  exact ⟨_, rfl, rfl, rfl⟩
/-! ### the walk -/
theorem sub_below {N : Nat} : ∀ (L : List Nat), (∀ x ∈ L, x < N) → ∃ xs : List (Below_ N), xs.map (·.1) = L
  | [], _ => ⟨[], rfl⟩
  | x :: r, h => by
    obtain ⟨xs, hxs⟩ := sub_below r (fun y hy => h y (by simp [hy]))
    exact ⟨⟨x, h x (by simp)⟩ :: xs, by simp [hxs]⟩
def cfN (l : List Str) (x y : Below_ l.length) : Int := cmpI (l.getD x.1 []) (l.getD y.1 [])
theorem cmpI_lt (s t : Str) : cmpI s t < 0 ↔ sl s t = true := by
  unfold cmpI
  split
  · rename_i h; simp [h]
  · rename_i h
    split <;> simp [h]
theorem ltN (l : List Str) (x y : Below_ l.length) : ltOf (cfN l) x y = sl (l.getD x.1 []) (l.getD y.1 []) := by
  unfold ltOf cfN
  rw [Bool.eq_iff_iff, decide_eq_true_eq, cmpI_lt]
theorem swoN (l : List Str) : Go.Sort.SWO (ltOf (cfN l)) where
  irrefl x := by rw [ltN]; exact sl_irrefl _
  trans x y z h1 h2 := by rw [ltN] at *; exact sl_trans h1 h2
  ntrans x y z h1 h2 := by
    rw [ltN] at *
    cases h : sl (l.getD x.1 []) (l.getD z.1 []) with
    | false => rfl
    | true =>
      cases h3 : sl (l.getD y.1 []) (l.getD x.1 []) with
      | true => rw [sl_trans h3 h] at h2; cases h2
      | false => rw [sl_tri h1 h3] at h; rw [h] at h2; cases h2
theorem sortNone_ret {cap : Nat} {f : Value} : Ret Tryd.prog 45 [.slice none 0 cap, f] w (fun _ w' => w' = w) := by
  refine ⟨Tryd.call45, ?_⟩
  refine (AnyF.slices_SortFunc_none { Tryd.laySort with } none cap f w).mono ?_
  rintro e w' ⟨rfl, rfl⟩
  exact ⟨_, rfl, rfl⟩
structure SdI (w : World) (B b1 b3 : Nat) (pv : Value) (k : Nat) (W : World) (ad : Option Addr) (cap : Nat) : Prop where
  n1 : Blk W b1 [pv] 23
  n3 : Blk W b3 [.slice ad k cap] 34
  own : OwnS W 3 1 ad k cap ((List.range k).map encJ)
  kp : Kp [] w W
  low : ∀ b, b ∈ [b1, b3] → w.heap.size ≤ b ∧ b < B
  new : ∀ b, b ∈ blkOf ad → B ≤ b
  ne : b1 ≠ b3
  z : k = 0 → ad = none
variable {B b1 b3 k : Nat} {pv : Value} {W : World} {ad : Option Addr} {cap : Nat}
theorem SdI.nc {W' : World} (h : SdI w B b1 b3 pv k W ad cap) (hn : Nc B W W') (hB : w.heap.size ≤ B) : SdI w B b1 b3 pv k W' ad cap :=
  ⟨hn.blk h.n1, hn.blk h.n3, hn.own h.own, hn.kp h.kp hB, h.low, h.new, h.ne, h.z⟩
set_option maxHeartbeats 3200000 in
theorem sorted_ret {l : List Str} (hl : l.length ≤ 131072) (hAll : ∀ w', Kp [] w w' → Ret Tryd.prog 22 [pv] w' (fun v w'' => ∃ Fp, NmSeq w'' v Fp l ∧ Kp [] w' w'' ∧ ∀ b, b ∈ Fp → w'.heap.size ≤ b)) (hp : ∃ p, pv = .pointer p) (hT : l = [] ∨ ∃ p fp m ad cap, pv = ptr p ∧ Tab w p fp l m ad cap) :
    Ret Tryd.prog 31 [pv] w (fun v w' => ∃ ad cap, ∃ out : List Nat, v = .slice ad out.length cap ∧ NewS w 3 w' ad out.length cap (out.map encJ) ∧ out.Perm (List.range l.length) ∧ out.Pairwise (fun a b => sl (l.getD b []) (l.getD a []) = false)) := by
  obtain ⟨p, rfl⟩ := hp
  refine enterM Tryd.call31 Tryd.func31 rfl rfl rfl rfl ?_
  refine m_seq (m_of ?_)
  (repeat refine zg ?_)
  refine o_box rfl rfl rfl ?_
  intro b1 w1 hb1 hu1
  (repeat first|refine zo rfl rfl trivial ?_|refine zn ?_)
  refine m_seq (m_of ?_)
  (repeat refine zg ?_)
  refine o_alloc rfl rfl rfl rfl ?_
  intro b3 w3 hb3 hu3
  have s1 := hu1.size
  have s3 := hu3.size
  have t1 := hu1.lt
  have t3 := hu3.lt
  have n1 : Blk w3 b1 [.pointer p] 23 := hu3.kept (by omega) hu1.blk
  have n3 : Blk w3 b3 [.slice none 0 0] 34 := hu3.blk
  have k3 : Kp [] w w3 := (hu1.kp [] (.inr (by omega))).trans (hu3.kp [] (.inr (by omega)))
  (repeat refine zn ?_)
  refine m_seq (m_seq (m_of ?_))
  (repeat refine zg ?_)
  refine o_load rfl n1 rfl rfl rfl rfl rfl ?_
  refine o_call (hAll w3 k3) rfl rfl rfl ?_
  rintro v w7 ⟨Fp, ⟨ff, lb, rfl, hI⟩, k67, hFp⟩
  have s7 := k67.size
  have g0 : SdI w w7.heap.size b1 b3 (.pointer p) 0 w7 none 0 := ⟨k67.blk (by simp) n1, k67.blk (by simp) n3, ownS_nil _ _ _, k3.trans k67,
    fun b hb => by simp only [List.mem_cons, List.not_mem_nil, or_false] at hb; omega, by simp [blkOf], by omega, fun _ => rfl⟩
  (repeat refine zn ?_)
  refine m_block ?_
  refine m_range hI [] (fun pre W => ∃ ad cap, SdI w w7.heap.size b1 b3 (.pointer p) pre.length W ad cap) (fun c pre W => False) rfl rfl (fun _ => rfl) ?_ ?_ ?_ ?_ ?_ ?_
  · rintro pre W1 W2 ⟨ad, cap, hg⟩ hnc
    exact ⟨ad, cap, hg.nc hnc (by omega)⟩
  · rintro c pre W1 W2 hf hnc
    exact hf
  · exact ⟨none, 0, g0⟩
  · intro D ll r pre x post W hx' hD hll
    (repeat first|refine zg ?_|refine zo rfl rfl trivial ?_|refine zn ?_)
    refine ⟨rfl, ?_⟩
    rintro W2 ⟨ad, cap, hg⟩ hkeep
    obtain ⟨xn, xt⟩ := x
    obtain ⟨hx1, hx2⟩ := nums_split hx'
    dsimp only at hx1 hx2
    subst hx1
    have hpl : pre.length + 1 + post.length = l.length := by rw [← nums_length (l := l), hx']; simp; omega
    have hD8 : ∀ {b : Nat}, b ∈ [b1, b3] → b ∉ Fp := fun {b} hb hF => by
      have := hFp b hF
      have := (hg.low b hb).2
      simp only [List.mem_cons, List.not_mem_nil, or_false] at hb
      omega
    have hDad : ∀ b, b ∈ blkOf ad → b ∉ Fp := fun b hb hF => by
      have := hI.1 b hF
      have := hg.new b hb
      omega
    have hlow1 := hg.low b1 (by simp)
    have hlow3 := hg.low b3 (by simp)
    have hne13 := hg.ne
    (repeat first|refine zg ?_|refine zb ?_)
    refine o_load rfl hg.n3 rfl rfl rfl rfl rfl ?_
    (repeat refine zo rfl rfl trivial ?_)
    refine o_buildSlice [I (pre.length : Int)] rfl (by simp [Value.oneCell']) rfl (by decide) (by decide) rfl rfl rfl rfl rfl ?_
    intro b9 W5 hb9 hu5'
    have kk5 : Kp [] W2 W5 := hu5'.kp [] (.inr (by omega))
    refine o_append1 rfl rfl (hg.own.kp kk5 (by simp)) hu5'.blk rfl rfl rfl rfl (by simp only [maxLen]; omega) (by omega) rfl rfl ?_
    intro ad6 cap6 W6 ho6 kk6 hnew6
    have b3' : Blk W6 b3 [.slice ad pre.length cap] 34 := kk6.blk (fun hb => by have := hg.new b3 hb; omega) (kk5.blk (by simp) hg.n3)
    refine o_store rfl b3' (by simp) rfl rfl rfl rfl rfl rfl ?_
    intro W7 hu7
    have hs5 := hu5'.size
    have hll2 := (Array.getElem?_eq_some_iff.1 hkeep.loop).1
    have had6 : ∀ b, b ∈ blkOf ad6 → w7.heap.size ≤ b := fun b hb => by
      rcases hnew6 b hb with h | h
      · exact hg.new b h
      · omega
    have kall : Kp (b3 :: blkOf ad) W2 W7 := ((kk5.mono (S' := b3 :: blkOf ad) (by simp)).after kk6 (fun b hb => .inl (by simp [hb]))).after (hu7.kp [b3] (.inl (by simp))) (fun b hb => .inl (by simp at hb; simp [hb]))
    have nad : ∀ {b : Nat}, b ∈ [b1, b3] → b ∉ blkOf ad := fun {b} hb h => by have := (hg.low b hb).2; have := hg.new b h; omega
    have hbx6 : b3 ∉ blkOf ad6 := fun hb => by have := had6 b3 hb; omega
    have hlen : (pre ++ [(pre.length, xt)]).length = pre.length + 1 := by simp
    (repeat refine zn ?_)
    rw [hlen]
    refine ⟨⟨ad6, cap6, ?_, hu7.blk, ?_, ?_, hg.low, had6, hg.ne, fun h => by omega⟩, ?_⟩
    · exact kall.blk (by simp only [List.mem_cons, not_or]; exact ⟨by omega, nad (by simp)⟩) hg.n1
    · rw [List.range_succ, List.map_append]; exact ho6.upd hu7 hbx6
    · exact hg.kp.since kall (fun b hb => by
        rcases List.mem_cons.1 hb with rfl | hb
        · omega
        · have := hg.new b hb; omega)
    · have hne := hkeep.neO hg.own
      have hne1 := hkeep.neB hg.n3
      refine hkeep.kp (fun b hb => by have := hI.1 b hb; omega) kall ?_ ?_ ?_
      · simp only [List.mem_cons, not_or]; exact ⟨Ne.symm hne1.1, hne.1⟩
      · simp only [List.mem_cons, not_or]; exact ⟨Ne.symm hne1.2, hne.2⟩
      · intro b hb hm
        rcases List.mem_cons.1 hm with rfl | hm
        · exact hD8 (by simp) hb
        · exact hDad b hm hb
  · rintro D W hD ⟨ad, cap, hg⟩ hsh
    rw [nums_length] at hg
    refine m_seq (m_of ?_)
    (repeat refine zg ?_)
    refine o_load rfl hg.n3 rfl rfl rfl rfl rfl ?_
    (repeat refine zo rfl rfl trivial ?_)
    have hDn : D ∉ blkOf ad := fun hb => by
      have hx := hg.own
      cases ad with
      | none => simp [blkOf] at hb
      | some a =>
        obtain ⟨_, _, _, _, junk, h5, _⟩ := hx.2
        simp [blkOf] at hb
        subst hb
        unfold Blk at h5; rw [h5] at hsh; cases hsh
    have nad : ∀ {b : Nat}, b ∈ [b1, b3] → b ∉ blkOf ad := fun {b} hb h => by have := (hg.low b hb).2; have := hg.new b h; omega
    have fin : ∀ (out : List Nat) (W8 : World), out.Perm (List.range l.length) → out.Pairwise (fun a b => sl (l.getD b []) (l.getD a []) = false) → Dat W8 ad l.length cap out → Kp (blkOf ad) W W8 →
        Blk W8 b3 [.slice ad l.length cap] 34 ∧ W8.heap[D]? = some (.deferred (some [])) ∧ ∀ W', Upd W8 D (.deferred none) W' → ∃ ad' cap', ∃ out' : List Nat, Value.slice ad l.length cap = .slice ad' out'.length cap' ∧ NewS w 3 W' ad' out'.length cap' (out'.map encJ) ∧ out'.Perm (List.range l.length) ∧ out'.Pairwise (fun a b => sl (l.getD b []) (l.getD a []) = false) := fun out W8 hperm hsrt hown8 hk8 => by
      have hsh8 : W8.heap[D]? = some (.deferred (some [])) := (hk8.at_ D (Array.getElem?_eq_some_iff.1 hsh).1 hDn).trans hsh
      refine ⟨hk8.blk (nad (by simp)) hg.n3, hsh8, fun W' hu => ?_⟩
      have hnc : Nc w7.heap.size W8 W' := hu.nc (by omega) (fun x hx => by rw [hsh8] at hx; cases hx; rfl)
      have hol : out.length = l.length := by rw [hperm.length_eq, List.length_range]
      have hk8' : Kp [] w W8 := hg.kp.since hk8 (fun b hb => by have := hg.new b hb; omega)
      exact ⟨ad, cap, out, by rw [hol], ⟨by rw [hol]; exact hnc.own hown8, hnc.kp hk8' (by omega), fun b hb => by have := hg.new b hb; omega⟩, hperm, hsrt⟩
    by_cases h0 : l.length = 0
    · have hl0 : l = [] := List.eq_nil_of_length_eq_zero h0
      subst hl0
      have had := hg.z rfl
      subst had
      refine o_call sortNone_ret rfl rfl rfl ?_
      rintro v W8 hW8
      obtain ⟨hb3', hsh8, hend⟩ := fin [] W8 (by simp) (by simp) (by rw [hW8]; exact hg.own) (by rw [hW8]; exact Kp.refl _ _)
      (repeat refine zn ?_)
      refine m_seq (m_of ?_)
      (repeat refine zg ?_)
      refine o_load rfl hb3' rfl rfl rfl rfl rfl ?_
      (repeat first|refine zo rfl rfl trivial ?_|refine zn ?_)
      refine m_ret ?_
      exact ⟨_, rfl, hsh8, hend⟩
    · obtain hT | ⟨p, fp, mT, adT, capT, hpv, hT⟩ := hT
      · exact absurd (by rw [hT]; rfl) h0
      cases hpv
      have hTW := hT.kp hg.kp (by simp)
      have hfp := hT.fp_eq
      obtain ⟨xs, hxs⟩ := sub_below (N := l.length) (List.range l.length) (fun x hx => List.mem_range.1 hx)
      have hdat : Dat W ad l.length cap (xs.map (·.1)) := by rw [hxs]; exact hg.own
      obtain ⟨b, off, hadT, _, hcell⟩ := hT.own.read.at_ (by simp; omega)
      subst hadT
      have hfn : ∀ c, c ∈ fp → c ∉ blkOf ad := fun c hc hb => by
        have h1 := hT.lt c hc
        have h2 := hg.new c hb
        omega
      refine o_call (sortFunc_ret (by omega) (swoN l) Tryd.call46 hdat (by have := hT.few; omega) (lb := [ptr b1]) (fun W2 hk2 x y => by
        have hT2 := hTW.kp hk2 hfn
        obtain ⟨b', off', he, _, hcell2⟩ := hT2.own.read.at_ (by simp; omega)
        cases he
        refine (sortedCmp_ret (hk2.blk (nad (by simp)) hg.n1) hT2.hdr rfl hcell2 x.2 y.2).2.mono ?_
        rintro e w' ⟨v, rfl, rfl, rfl⟩
        exact ⟨rfl, 1, #[], by rw [Go.Sort.grow_empty]⟩)) rfl rfl rfl ?_
      rintro v W8 ⟨s', hperm, hsrt, hown8, hk8⟩
      obtain ⟨hb3', hsh8, hend⟩ := fin (s'.map (·.1)) W8 (by rw [← hxs]; exact hperm.map _) (List.pairwise_map.2 (hsrt.imp fun {a b} h => by rw [ltN] at h; exact h)) hown8 hk8
      (repeat refine zn ?_)
      refine m_seq (m_of ?_)
      (repeat refine zg ?_)
      refine o_load rfl hb3' rfl rfl rfl rfl rfl ?_
      (repeat first|refine zo rfl rfl trivial ?_|refine zn ?_)
      refine m_ret ?_
      exact ⟨_, rfl, hsh8, hend⟩
  · rintro D c pre post W hD _ hx' hf hsh
    exact hf.elim
end Go.Vc
