/- names.Distance computes dist. -/
import Derived.Test.YtghdpibdidfpbaaDoorQClNPlays6
import Derived.Test.YtghdpibdidfpbaaDoorQClNPlays5
namespace Go.Vc
open Go Go.Proofs
set_option maxRecDepth 10000
theorem distance_ret (s t : List UInt8) (w : World) : Ret Tryd.prog 19 [S s, S t] w (fun v w' => v = I (dist s t) ∧ Kp [] w w') := by
  refine enter Tryd.call19 Tryd.func19 rfl rfl rfl rfl ?_
  (repeat first|refine zA ?_|refine zg ?_|refine zo rfl rfl trivial ?_|refine zn ?_)
  refine o_call (counted_ret _ _) rfl rfl rfl ?_
  rintro v w' ⟨rfl, rfl⟩
  (repeat refine zo rfl rfl trivial ?_)
  refine o_call (counted_ret _ _) rfl rfl rfl ?_
  rintro v w0 ⟨rfl, rfl⟩
  have ha : (s.take 256).length ≤ 256 := List.length_take_le _ _
  have hb : (t.take 256).length ≤ 256 := List.length_take_le _ _
  have hdist : dist s t = lev (s.take 256).reverse (t.take 256).reverse := rfl
  generalize s.take 256 = a at *
  generalize t.take 256 = b at *
  (repeat first|refine zA ?_|refine zg ?_|refine zo rfl rfl (by first|exact trivial|(simp only[AllP];omega)) ?_|refine zn ?_)
  refine o_make rfl rfl rfl rfl rfl (by omega) (by omega) (by omega) (by omega) rfl rfl ?_
  intro br w1 hbr hw1
  have kp1 : Kp [] w0 w1 := hw1.kp [] (.inr (by omega))
  have e1 : ((b.length : Int) + 1).toNat = b.length + 1 := by omega
  rw [e1, rowL_rep] at hw1
  rw [e1]
  have hB := hw1.blk
  clear hw1
  (repeat first|refine zo rfl rfl trivial ?_|refine zn ?_)
  refine r_seq ?_
  -- row[k] = k
  refine r_cut (α := Unit) [0, 1, 5] (fun _ => [S a, S b, .slice (some ⟨br, 0, none⟩) (b.length + 1) (b.length + 1)]) (fun _ w' => Kp [] w0 w' ∧ Blk w' br (rowL (b.length + 1) (fun j => I (D a b 0 j))) 3) ?_ ?_
  · (repeat first|refine zA ?_|refine zg ?_|refine zo rfl rfl trivial ?_|refine zn ?_|refine zb ?_)
    refine r_loop (α := Nat) [0, 1, 5, 20, 21] (fun k => [S a, S b, .slice (some ⟨br, 0, none⟩) (b.length + 1) (b.length + 1), I (b.length + 1 : Nat), I k])
      (fun k w' => k ≤ b.length + 1 ∧ Kp [] w0 w' ∧ Blk w' br (rowL (b.length + 1) (fun j => if j < k then I j else I 0)) 3) (fun k => b.length + 1 - k) 0 rfl ⟨by omega, kp1, hB⟩ ?_
    rintro k e w' ⟨hk, kp, hB⟩
    (repeat first|refine zA ?_|refine zD ?_|refine zg ?_|refine zo rfl rfl trivial ?_|refine zn ?_)
    refine r_if rfl (fun hlt => ?_) (fun hge => ?_)
    · (repeat first|refine zA ?_|refine zC ?_|refine zg ?_|refine zo rfl rfl (by first|exact trivial|(simp only[AllP];omega)) ?_|refine zn ?_|refine zb ?_|refine zk ?_)
      refine o_store rfl hB (by rw [rowL_len]; omega) rfl rfl rfl rfl rfl rfl ?_
      intro w2 hu
      have kp2 := kp.since (hu.kp [br] (.inl (by simp))) (by simp; omega)
      have hB2 := hu.blk
      (repeat first|refine zg ?_|refine zo rfl rfl (by first|exact trivial|(simp only[AllP];omega)) ?_|refine zn ?_)
      refine ⟨k + 1, rfl, ⟨by omega, kp2, ?_⟩, by omega⟩
      rw [rowL_set] at hB2
      rw [rowL_congr (g := fun j => if j = 0 + (k : Int).toNat then I k else if j < k then I j else I 0)]
      · exact hB2
      · intro j hj
        by_cases h1 : j = k
        · subst h1; simp
        · have : (j < k + 1) = (j < k) := by simp; omega
          simp [h1, this]
    · (repeat refine ze rfl ?_)
      refine ⟨(), rfl, kp, ?_⟩
      rw [rowL_congr (g := fun j => if j < k then I j else I 0)]
      · exact hB
      · intro j hj
        rw [D_0 a b j (by omega), if_pos (by omega)]
  rintro _ e w2 ⟨kp2, hB2⟩
  clear hB kp1
  (repeat first|refine zA ?_|refine zB ?_|refine zg ?_|refine zo rfl rfl trivial ?_|refine zn ?_|refine zb ?_)
  refine r_loop (α := Nat) [0, 1, 5, 30, 31] (fun i => [S a, S b, .slice (some ⟨br, 0, none⟩) (b.length + 1) (b.length + 1), I a.length, I i])
    (fun i w' => i ≤ a.length ∧ Kp [] w0 w' ∧ Blk w' br (rowL (b.length + 1) (fun j => I (D a b i j))) 3) (fun i => a.length - i) 0 rfl ⟨by omega, kp2, hB2⟩ ?_
  clear kp2 hB2
  rintro i e w2 ⟨hi, kp2, hB2⟩
  (repeat first|refine zA ?_|refine zD ?_|refine zg ?_|refine zo rfl rfl trivial ?_|refine zn ?_)
  refine r_if rfl (fun hlt => ?_) (fun hge => ?_)
  · have hlt : i < a.length := by omega
    have h00 := D_i0 a b i hi
    have h10 := D_i0 a b (i + 1) hlt
    (repeat first|refine zA ?_|refine zC ?_|refine zg ?_|refine zo rfl rfl (by first|exact trivial|(simp only[AllP];omega)) ?_|refine zn ?_|refine zb ?_|refine zk ?_)
    refine o_load rfl hB2 (rowL_get _ (by omega)) rfl rfl rfl rfl ?_
    (repeat first|refine zA ?_|refine zg ?_|refine zo rfl rfl (by first|exact trivial|(simp only[AllP];omega)) ?_|refine zn ?_)
    refine o_store rfl hB2 (by rw [rowL_len]; omega) rfl rfl rfl rfl rfl rfl ?_
    intro w3 hu
    have kp3 := kp2.since (hu.kp [br] (.inl (by simp))) (by simp; omega)
    have hB3 := hu.blk
    rw [rowL_set, rowL_congr (g := fun j => I (if j ≤ 0 then D a b (i + 1) j else D a b i j : Nat))] at hB3
    · clear hu hB2 kp2
      (repeat first|refine zA ?_|refine zg ?_|refine zo rfl rfl trivial ?_|refine zn ?_|refine zb ?_)
      refine r_loop (α := Nat) [0, 1, 5, 7, 8, 30, 31, 42, 43] (fun k => [S a, S b, .slice (some ⟨br, 0, none⟩) (b.length + 1) (b.length + 1), I i, I (D a b i k), I a.length, I i, I b.length, I k])
        (fun k w' => k ≤ b.length ∧ Kp [] w0 w' ∧ Blk w' br (rowL (b.length + 1) (fun j => I (if j ≤ k then D a b (i + 1) j else D a b i j : Nat))) 3) (fun k => b.length - k) 0 rfl ⟨by omega, kp3, hB3⟩ ?_
      clear kp3 hB3
      rintro k e w3 ⟨hk, kp3, hB3⟩
      (repeat first|refine zA ?_|refine zD ?_|refine zg ?_|refine zo rfl rfl trivial ?_|refine zn ?_)
      refine r_if rfl (fun hlt2 => ?_) (fun hge2 => ?_)
      · have hlt2 : k < b.length := by omega
        have hD := D_le a b i hi k hk
        have hD2 := D_le a b i hi (k + 1) hlt2
        have hD3 := D_le a b (i + 1) hlt k hk
        (repeat first|refine zA ?_|refine zC ?_|refine zg ?_|refine zo rfl rfl trivial ?_|refine zn ?_|refine zb ?_|refine zk ?_)
        refine r_seq ?_
        refine r_cut (α := Unit) [0, 1, 5, 7, 8, 9, 10, 30, 31, 42, 43] (fun _ => [S a, S b, .slice (some ⟨br, 0, none⟩) (b.length + 1) (b.length + 1), I i, I (D a b i k), I k, I (D a b i k + if a.getD i 0 = b.getD k 0 then 0 else 1 : Nat), I a.length, I i, I b.length, I k]) (fun _ w' => Sm w3 w') ?_ ?_
        · refine r_seq ?_
          refine r_quietS follows_mixed (by kernel_rfl) ?_
          (repeat first|refine yo rfl rfl (by first|exact trivial|(simp only[AllP];omega)) ?_|refine yn ?_)
          intro w4 hs4
          refine r_ifn rfl (fun h => ?_) (fun h => ?_)
          · (repeat first|refine zg ?_|refine zo rfl rfl (by first|exact trivial|(simp only[AllP];omega)) ?_|refine zn ?_)
            refine ⟨(), ?_, hs4⟩
            have hne : ¬ a.getD i 0 = b.getD k 0 := fun h' => h (by simp only [Int.toNat_natCast, h'])
            rw [if_neg hne]
            rfl
          · (repeat refine zk ?_)
            refine ⟨(), ?_, hs4⟩
            have heq : a.getD i 0 = b.getD k 0 := by
              simp only [Int.toNat_natCast] at h
              exact UInt8.toNat_inj.1 (by omega)
            rw [if_pos heq]
            rfl
        · rintro _ e w4 hs4
          have hB4 := hs4.blk hB3
          have kp4 := kp3.trans (hs4.kp [])
          clear hB3 kp3 hs4
          have hn : D a b i k + (if a.getD i 0 = b.getD k 0 then 0 else 1 : Nat) ≤ i + k + 1 := by split <;> omega
          have hss := D_ss a b i k hlt hlt2
          generalize hne : D a b i k + (if a.getD i 0 = b.getD k 0 then 0 else 1 : Nat) = ne at *
          (repeat first|refine zA ?_|refine zg ?_|refine zo rfl rfl (by first|exact trivial|(simp only[AllP];omega)) ?_)
          refine o_load rfl hB4 (rowL_get _ (by omega)) rfl rfl rfl rfl ?_
          have ek : ((k : Int) + 1).toNat = k + 1 := by omega
          rw [ek, Nat.zero_add, if_neg (by omega)]
          (repeat first|refine zg ?_|refine zo rfl rfl (by first|exact trivial|(simp only[AllP];omega)) ?_|refine zn ?_)
          refine o_load rfl hB4 (rowL_get _ (by omega)) rfl rfl rfl rfl ?_
          rw [Int.toNat_natCast, Nat.zero_add, if_pos (Nat.le_refl _)]
          (repeat refine zo rfl rfl (by first|exact trivial|(simp only[AllP];omega)) ?_)
          refine o_store rfl hB4 (by rw [rowL_len]; omega) rfl rfl rfl rfl rfl rfl ?_
          intro w5 hu
          have kp5 := kp4.since (hu.kp [br] (.inl (by simp))) (by simp; omega)
          have hB5 := hu.blk
          rw [rowL_set, rowL_congr (g := fun j => I (if j ≤ k + 1 then D a b (i + 1) j else D a b i j : Nat))] at hB5
          · (repeat first|refine zg ?_|refine zo rfl rfl (by first|exact trivial|(simp only[AllP];omega)) ?_|refine zn ?_)
            exact ⟨k + 1, rfl, ⟨hlt2, kp5, hB5⟩, by omega⟩
          · intro j hj
            by_cases h1 : j = k + 1
            · subst h1
              rw [if_pos (by omega), if_pos (by omega), hss]
              congr 1
              omega
            · have : (j ≤ k + 1) = (j ≤ k) := by simp; omega
              rw [if_neg (by omega)]
              simp only [this]
      · (repeat first|refine zg ?_|refine zo rfl rfl (by first|exact trivial|(simp only[AllP];omega)) ?_|refine zn ?_|refine ze rfl ?_)
        refine ⟨i + 1, rfl, ⟨hlt, kp3, ?_⟩, by omega⟩
        rw [rowL_congr (g := fun j => I (if j ≤ k then D a b (i + 1) j else D a b i j : Nat))]
        · exact hB3
        · intro j hj
          rw [if_pos (by omega)]
    · intro j hj
      by_cases h1 : j = 0
      · subst h1
        simp [h10]
      · rw [if_neg (by simpa using h1), if_neg (by omega)]
  · (repeat first|refine zA ?_|refine zg ?_|refine zo rfl rfl (by first|exact trivial|(simp only[AllP];omega)) ?_|refine ze rfl ?_)
    refine o_load rfl hB2 (rowL_get _ (by omega)) rfl rfl rfl rfl ?_
    (repeat first|refine zo rfl rfl trivial ?_|refine zn ?_|refine zr ?_)
    refine ⟨_, rfl, ?_, kp2⟩
    have hi : i = a.length := by omega
    subst hi
    rw [hdist, ← D_full]
    simp
end Go.Vc
/- The table of names: New, Add, Find, there. -/
namespace Go.Vc
open Go Go.Proofs
set_option maxRecDepth 10000

abbrev Str := List UInt8
def tabE : List Str → Nat → List MapEntry
  | [], _ => []
  | s :: r, i => ⟨S s, I i, i⟩ :: tabE r (i + 1)
/-- the first place of a text -/
def nidx : List Str → Str → Option Nat
  | [], _ => none
  | s :: r, k => if k = s then some 0 else (nidx r k).map (· + 1)
theorem beq_str (k s : Str) : ((ByteArray.mk ⟨k⟩) == (ByteArray.mk ⟨s⟩)) = decide (k = s) := by
  have : ((ByteArray.mk ⟨k⟩) == (ByteArray.mk ⟨s⟩)) = ((Array.mk k) == (Array.mk s)) := rfl
  rw [this, Bool.eq_iff_iff]; simp
theorem findNow_tab (k : Str) : ∀ (l : List Str) (i j : Nat), Instr.findNow .string (S k) (tabE l i) j = some ((nidx l k).map fun x => (j + x, I (i + x : Nat)))
  | [], i, j => rfl
  | s :: r, i, j => by
    simp only [tabE, Instr.findNow, Instr.sameNow, beq_str, nidx]
    by_cases h : k = s
    · simp [h]
    · rw [decide_eq_false h, if_neg h]
      dsimp only
      rw [findNow_tab k r (i + 1) (j + 1)]
      cases nidx r k with
      | none => rfl
      | some x => simp; omega
theorem tabE_push (s : Str) : ∀ (l : List Str) (i : Nat), tabE (l ++ [s]) i = tabE l i ++ [⟨S s, I (i + l.length : Nat), i + l.length⟩]
  | [], i => by simp [tabE]
  | x :: r, i => by
    simp only [List.cons_append, tabE, tabE_push s r (i + 1), List.length_cons]
    have : i + 1 + r.length = i + (r.length + 1) := by omega
    rw [this]

/-- a table made by New -/
structure Tab (w : World) (p : Nat) (fp : List Nat) (l : List Str) (m : Nat) (ad : Option Addr) (cap : Nat) : Prop where
  hdr : Blk w p [.slice ad l.length cap, .map (some m)] 54
  own : OwnS w 9 1 ad l.length cap (l.map S)
  mp : w.heap[m]? = some (.map ⟨tabE l 0⟩ l.length)
  fp_eq : fp = p :: m :: blkOf ad
  few : l.length ≤ 131072
theorem Tab.pm {w : World} {p : Nat} {fp : List Nat} {l : List Str} {m : Nat} {ad : Option Addr} {cap : Nat} (h : Tab w p fp l m ad cap) : p ≠ m := by
  rintro rfl; have h1 := h.hdr; have h2 := h.mp; unfold Blk at h1; rw [h1] at h2; cases h2
theorem Tab.p_ad {w : World} {p : Nat} {fp : List Nat} {l : List Str} {m : Nat} {ad : Option Addr} {cap : Nat} (h : Tab w p fp l m ad cap) : p ∉ blkOf ad := by
  intro hb
  have h1 := h.hdr; have h2 := h.own.2
  cases ad with
  | none => simp [blkOf] at hb
  | some ad =>
    simp [blkOf] at hb; subst hb
    obtain ⟨_, _, _, _, junk, h5, _⟩ := h2
    unfold Blk at h1 h5; rw [h1] at h5; simp at h5
theorem Tab.m_ad {w : World} {p : Nat} {fp : List Nat} {l : List Str} {m : Nat} {ad : Option Addr} {cap : Nat} (h : Tab w p fp l m ad cap) : m ∉ blkOf ad := by
  intro hb
  have h1 := h.mp; have h2 := h.own.2
  cases ad with
  | none => simp [blkOf] at hb
  | some ad =>
    simp [blkOf] at hb; subst hb
    obtain ⟨_, _, _, _, junk, h5, _⟩ := h2
    unfold Blk at h5; rw [h1] at h5; simp at h5
theorem Tab.keep {w w' : World} {p : Nat} {fp : List Nat} {l : List Str} {m : Nat} {ad : Option Addr} {cap : Nat} (h : Tab w p fp l m ad cap) (hk : ∀ b, b ∈ fp → w'.heap[b]? = w.heap[b]?) : Tab w' p fp l m ad cap := by
  have hf := h.fp_eq
  subst hf
  exact ⟨by unfold Blk; rw [hk p (by simp)]; exact h.hdr, h.own.keep fun b hb => hk b (by simp [hb]), by rw [hk m (by simp)]; exact h.mp, rfl, h.few⟩
theorem Tab.lt {w : World} {p : Nat} {fp : List Nat} {l : List Str} {m : Nat} {ad : Option Addr} {cap : Nat} (h : Tab w p fp l m ad cap) : ∀ b, b ∈ fp → b < w.heap.size := by
  rw [h.fp_eq]
  intro b hb
  simp at hb
  rcases hb with rfl | rfl | hb
  · exact h.hdr.lt
  · exact (Array.getElem?_eq_some_iff.1 h.mp).1
  · exact h.own.lt b hb
theorem Tab.kp {w w' : World} {p : Nat} {fp : List Nat} {l : List Str} {m : Nat} {ad : Option Addr} {cap : Nat} (h : Tab w p fp l m ad cap) {Q : List Nat} (hk : Kp Q w w') (hd : ∀ b, b ∈ fp → b ∉ Q) : Tab w' p fp l m ad cap :=
  h.keep fun b hb => hk.at_ b (h.lt b hb) (hd b hb)
theorem Tab.sm {w w' : World} {p : Nat} {fp : List Nat} {l : List Str} {m : Nat} {ad : Option Addr} {cap : Nat} (h : Tab w p fp l m ad cap) (hs : Sm w w') : Tab w' p fp l m ad cap := h.keep fun b _ => by rw [hs.heap]

variable {w : World} {p : Nat} {fp : List Nat} {l : List Str} {m : Nat} {ad : Option Addr} {cap : Nat}

theorem there_ret (h : Tab w p fp l m ad cap) : Ret Tryd.prog 20 [ptr p] w (fun v w' => v = .bool true ∧ w' = w) := by
  refine enter Tryd.call20 Tryd.func20 rfl rfl rfl rfl ?_
  (repeat first|refine zA ?_|refine zg ?_|refine zo rfl rfl trivial ?_|refine zn ?_|refine zT rfl rfl rfl ?_)
  refine o_load rfl h.hdr rfl rfl rfl rfl rfl ?_
  (repeat first|refine zo rfl rfl trivial ?_|refine zn ?_|refine zr ?_)
  exact ⟨_, rfl, rfl, rfl⟩
theorem there_nil : Ret Tryd.prog 20 [.pointer none] w (fun v w' => v = .bool false ∧ w' = w) := by
  refine enter Tryd.call20 Tryd.func20 rfl rfl rfl rfl ?_
  (repeat first|refine zA ?_|refine zg ?_|refine zo rfl rfl trivial ?_|refine zn ?_|refine zr ?_|refine zU rfl rfl rfl ?_)
  exact ⟨_, rfl, rfl, rfl⟩

def findV (l : List Str) (k : Str) : Value := .tuple #[I ((nidx l k).getD 0), .bool (nidx l k).isSome]
theorem find_ret (h : Tab w p fp l m ad cap) (k : Str) : Ret Tryd.prog 8 [ptr p, S k] w (fun v w' => v = findV l k ∧ w' = w) := by
  refine enter Tryd.call8 Tryd.func8 rfl rfl rfl rfl ?_
  (repeat first|refine zA ?_|refine zB ?_|refine zg ?_|refine zo rfl rfl trivial ?_|refine zn ?_)
  refine o_call (there_ret h) rfl rfl rfl ?_
  rintro v w' ⟨rfl, rfl⟩
  (repeat first|refine zA ?_|refine zg ?_|refine zo rfl rfl trivial ?_|refine zn ?_|refine zk ?_|refine zf rfl ?_)
  try refine r_no rfl rfl ?_
  refine o_load rfl h.hdr rfl rfl rfl rfl rfl ?_
  (repeat refine zo rfl rfl trivial ?_)
  have hf := findNow_tab k l 0 0
  unfold findV
  cases hn : nidx l k with
  | none =>
    rw [hn] at hf
    refine o_lookup2 none rfl rfl h.mp hf rfl rfl (.inl rfl) rfl rfl rfl rfl ?_
    (repeat first|refine zA ?_|refine zg ?_|refine zo rfl rfl trivial ?_|refine zn ?_|refine zr ?_)
    exact ⟨_, rfl, rfl, rfl⟩
  | some x =>
    rw [hn] at hf
    refine o_lookup2 _ rfl rfl h.mp hf rfl rfl (.inl rfl) rfl rfl rfl rfl ?_
    (repeat first|refine zA ?_|refine zg ?_|refine zo rfl rfl trivial ?_|refine zn ?_|refine zr ?_)
    exact ⟨_, rfl, by simp, rfl⟩

/-- what Add answers, and the names behind it -/
def addN (l : List Str) (s : Str) : Int := if nameB s = true ∧ nidx l s = none ∧ l.length < 131072 then l.length else 0
def addE (l : List Str) (s : Str) : Int := if nameB s = true then (if nidx l s = none then (if l.length < 131072 then 0 else 62) else 61) else 60
def addL (l : List Str) (s : Str) : List Str := if nameB s = true ∧ nidx l s = none ∧ l.length < 131072 then l ++ [s] else l
/-- what Add leaves -/
def AddPost (w w' : World) (p : Nat) (fp : List Nat) (l' : List Str) : Prop :=
  ∃ fp' m' ad' cap', Tab w' p fp' l' m' ad' cap' ∧ Kp fp w w' ∧ ∀ b, b ∈ fp' → b ∈ fp ∨ w.heap.size ≤ b
theorem add_ret (h : Tab w p fp l m ad cap) (s : Str) (hs : s.length ≤ 9223372036854775807) :
    Ret Tryd.prog 9 [ptr p, S s] w (fun v w' => v = .tuple #[I (addN l s), I (addE l s)] ∧ AddPost w w' p fp (addL l s)) := by
  refine enter Tryd.call9 Tryd.func9 rfl rfl rfl rfl ?_
  (repeat first|refine zA ?_|refine zB ?_|refine zg ?_|refine zo rfl rfl trivial ?_|refine zn ?_)
  refine o_call (there_ret h) rfl rfl rfl ?_
  rintro v w' ⟨rfl, rfl⟩
  (repeat first|refine zA ?_|refine zB ?_|refine zg ?_|refine zo rfl rfl trivial ?_|refine zn ?_|refine zk ?_|refine zf rfl ?_)
  try refine r_no rfl rfl ?_
  refine o_call (check_ret s hs _) rfl rfl rfl ?_
  rintro v w0 ⟨rfl, rfl⟩
  have stays : AddPost w0 w0 p fp l := ⟨fp, m, ad, cap, h, Kp.refl _ _, fun b hb => .inl hb⟩
  by_cases hn : nameB s = true
  · have hc : checkI s = 0 := by simp [checkI, hn]
    rw [hc]
    (repeat first|refine zA ?_|refine zB ?_|refine zg ?_|refine zo rfl rfl trivial ?_|refine zn ?_|refine zk ?_|refine zf rfl ?_)
    try refine r_no rfl rfl ?_
    refine o_load rfl h.hdr rfl rfl rfl rfl rfl ?_
    (repeat refine zo rfl rfl trivial ?_)
    have hf := findNow_tab s l 0 0
    cases hx : nidx l s with
    | some x =>
      rw [hx] at hf
      refine o_lookup2 _ rfl rfl h.mp hf rfl rfl (.inl rfl) rfl rfl rfl rfl ?_
      (repeat first|refine zA ?_|refine zg ?_|refine zo rfl rfl trivial ?_|refine zn ?_|refine zr ?_|refine zt rfl ?_)
      try refine r_yes rfl rfl ?_
      refine ⟨_, rfl, ?_, ?_⟩
      · simp [addN, addE, hn, hx]
      · simpa [addL, hn, hx] using stays
    | none =>
      rw [hx] at hf
      refine o_lookup2 none rfl rfl h.mp hf rfl rfl (.inl rfl) rfl rfl rfl rfl ?_
      (repeat first|refine zA ?_|refine zg ?_|refine zo rfl rfl trivial ?_|refine zn ?_|refine zk ?_|refine zf rfl ?_)
      try refine r_no rfl rfl ?_
      refine o_load rfl h.hdr rfl rfl rfl rfl rfl ?_
      (repeat first|refine zA ?_|refine zB ?_|refine zg ?_|refine zo rfl rfl trivial ?_|refine zn ?_)
      refine r_if rfl (fun hge => ?_) (fun hlt => ?_)
      · (repeat first|refine zA ?_|refine zg ?_|refine zo rfl rfl trivial ?_|refine zn ?_|refine zr ?_)
        refine ⟨_, rfl, ?_, ?_⟩
        · have : ¬ l.length < 131072 := by omega
          simp [addN, addE, hn, hx, this]
        · have : ¬ l.length < 131072 := by omega
          simpa [addL, hn, hx, this] using stays
      · have hlt' : l.length < 131072 := by omega
        (repeat first|refine zA ?_|refine zg ?_|refine zo rfl rfl trivial ?_|refine zk ?_)
        refine o_load rfl h.hdr rfl rfl rfl rfl rfl ?_
        (repeat refine zo rfl rfl trivial ?_)
        refine o_buildSlice [S s] rfl (by simp [Value.oneCell']) rfl (by decide) (by decide) rfl rfl rfl rfl rfl ?_
        intro b1 w1 hb1 hu1
        have hT1 := h.kp (hu1.kp [] (.inr (by omega))) (by simp)
        have hB1 : Blk w1 b1 [S s] 9 := hu1.blk
        have kp1 := hu1.kp fp (.inr (by omega))
        have hs1 := hu1.size
        clear hu1
        refine o_append1 rfl rfl hT1.own hB1 rfl rfl rfl rfl (by simp only [maxLen]; omega) (by omega) rfl rfl ?_
        intro ad' cap' w2 ho2 kp2 hnew
        have hfp := h.fp_eq
        have kp2' : Kp fp w1 w2 := kp2.mono (by rw [hfp]; intro b hb; simp [hb])
        have hH2 : Blk w2 p [.slice ad l.length cap, .map (some m)] 54 := kp2.blk hT1.p_ad hT1.hdr
        have hM2 : w2.heap[m]? = some (.map ⟨tabE l 0⟩ l.length) := by
          rw [kp2.at_ m (hT1.lt m (by simp [hfp])) hT1.m_ad]; exact hT1.mp
        (repeat refine zo rfl rfl trivial ?_)
        refine o_store rfl hH2 (by simp) rfl rfl rfl rfl rfl rfl ?_
        intro w3 hu3
        have hp1 : p < w1.heap.size := hT1.hdr.lt
        have hm1 : m < w1.heap.size := hT1.lt m (by simp [hfp])
        have hpad' : p ∉ blkOf ad' := fun hb => by
          rcases hnew p hb with h1 | h1
          · exact hT1.p_ad h1
          · omega
        have hmad' : m ∉ blkOf ad' := fun hb => by
          rcases hnew m hb with h1 | h1
          · exact hT1.m_ad h1
          · omega
        have kp3 := hu3.kp fp (.inl (by simp [hfp]))
        have ho3 := ho2.upd hu3 hpad'
        have hM3 := hu3.keep (Ne.symm hT1.pm) hM2
        have hH3 := hu3.blk
        (repeat first|refine zA ?_|refine zg ?_|refine zo rfl rfl trivial ?_|refine zn ?_)
        refine o_load rfl hH3 rfl rfl rfl rfl rfl ?_
        (repeat refine zo rfl rfl trivial ?_)
        refine o_insert rfl rfl rfl hM3 hf rfl rfl (.inl rfl) rfl rfl ?_
        intro w4 hu4
        have kp4 := hu4.kp fp (.inl (by simp [hfp]))
        have ho4 := ho3.upd hu4 hmad'
        have hH4 := hu4.kept hT1.pm hH3
        have hM4 := hu4.at_
        (repeat first|refine zA ?_|refine zg ?_|refine zo rfl rfl trivial ?_|refine zn ?_|refine zr ?_)
        refine ⟨_, rfl, by simp [addN, addE, hn, hx, hlt'], ?_⟩
        have hl : addL l s = l ++ [s] := by simp [addL, hn, hx, hlt']
        rw [hl]
        refine ⟨p :: m :: blkOf ad', m, ad', cap', ⟨?_, ?_, ?_, rfl, by simp; omega⟩, kp1.trans (kp2'.trans (kp3.trans kp4)), ?_⟩
        · simpa using hH4
        · simpa using ho4
        · rw [hM4]
          simp [tabE_push]
        · intro b hb
          simp at hb
          rw [hfp]
          rcases hb with rfl | rfl | hb
          · simp
          · simp
          · rcases hnew b hb with h1 | h1
            · simp [h1]
            · right; omega
  · have hc : checkI s = 60 := by simp [checkI, hn]
    rw [hc]
    (repeat first|refine zA ?_|refine zg ?_|refine zo rfl rfl trivial ?_|refine zn ?_|refine zr ?_|refine zt rfl ?_)
    try refine r_yes rfl rfl ?_
    refine ⟨_, rfl, ?_, ?_⟩
    · simp [addN, addE, hn]
    · simpa [addL, hn] using stays
end Go.Vc
