/- The table of names: New, Add, Find, there. -/
import Derived.Test.YtghdpibdidfpbaaDoorQClFresh6
import Derived.Test.YtghdpibdidfpbaaDoorQClFresh5
namespace Go.Vc
open Go Go.Proofs
set_option maxRecDepth 10000

abbrev Str := List UInt8
def tabE : List Str → Nat → List MapEntry
  | [], _ => []
  | s :: r, i => ⟨S s, I i, i⟩ :: tabE r (i + 1)
/-- the first place of a text -/
def nidx : List Str → Str → Option Nat
  | [], _ => none
  | s :: r, k => if k = s then some 0 else (nidx r k).map (· + 1)
theorem beq_str (k s : Str) : ((ByteArray.mk ⟨k⟩) == (ByteArray.mk ⟨s⟩)) = decide (k = s) := by
  have : ((ByteArray.mk ⟨k⟩) == (ByteArray.mk ⟨s⟩)) = ((Array.mk k) == (Array.mk s)) := rfl
  rw [this, Bool.eq_iff_iff]; simp
theorem findNow_tab (k : Str) : ∀ (l : List Str) (i j : Nat), Instr.findNow .string (S k) (tabE l i) j = some ((nidx l k).map fun x => (j + x, I (i + x : Nat)))
  | [], i, j => rfl
  | s :: r, i, j => by
    simp only [tabE, Instr.findNow, Instr.sameNow, beq_str, nidx]
    by_cases h : k = s
    · simp [h]
    · rw [decide_eq_false h, if_neg h]
      dsimp only
      rw [findNow_tab k r (i + 1) (j + 1)]
      cases nidx r k with
      | none => rfl
      | some x => simp; omega
theorem tabE_push (s : Str) : ∀ (l : List Str) (i : Nat), tabE (l ++ [s]) i = tabE l i ++ [⟨S s, I (i + l.length : Nat), i + l.length⟩]
  | [], i => by simp [tabE]
  | x :: r, i => by
    simp only [List.cons_append, tabE, tabE_push s r (i + 1), List.length_cons]
    have : i + 1 + r.length = i + (r.length + 1) := by omega
    rw [this]

/-- a table made by New -/
structure Tab (w : World) (p : Nat) (fp : List Nat) (l : List Str) (m : Nat) (ad : Option Addr) (cap : Nat) : Prop where
  hdr : Blk w p [.slice ad l.length cap, .map (some m)] 54
  own : OwnS w 9 1 ad l.length cap (l.map S)
  mp : w.heap[m]? = some (.map ⟨tabE l 0⟩ l.length)
  fp_eq : fp = p :: m :: blkOf ad
  few : l.length ≤ 131072
theorem Tab.pm {w : World} {p : Nat} {fp : List Nat} {l : List Str} {m : Nat} {ad : Option Addr} {cap : Nat} (h : Tab w p fp l m ad cap) : p ≠ m := by
  rintro rfl; have h1 := h.hdr; have h2 := h.mp; unfold Blk at h1; rw [h1] at h2; cases h2
theorem Tab.p_ad {w : World} {p : Nat} {fp : List Nat} {l : List Str} {m : Nat} {ad : Option Addr} {cap : Nat} (h : Tab w p fp l m ad cap) : p ∉ blkOf ad := by
  intro hb
  have h1 := h.hdr; have h2 := h.own.2
  cases ad with
  | none => simp [blkOf] at hb
  | some ad =>
    simp [blkOf] at hb; subst hb
    obtain ⟨_, _, _, _, junk, h5, _⟩ := h2
    unfold Blk at h1 h5; rw [h1] at h5; simp at h5
theorem Tab.m_ad {w : World} {p : Nat} {fp : List Nat} {l : List Str} {m : Nat} {ad : Option Addr} {cap : Nat} (h : Tab w p fp l m ad cap) : m ∉ blkOf ad := by
  intro hb
  have h1 := h.mp; have h2 := h.own.2
  cases ad with
  | none => simp [blkOf] at hb
  | some ad =>
    simp [blkOf] at hb; subst hb
    obtain ⟨_, _, _, _, junk, h5, _⟩ := h2
    unfold Blk at h5; rw [h1] at h5; simp at h5
theorem Tab.keep {w w' : World} {p : Nat} {fp : List Nat} {l : List Str} {m : Nat} {ad : Option Addr} {cap : Nat} (h : Tab w p fp l m ad cap) (hk : ∀ b, b ∈ fp → w'.heap[b]? = w.heap[b]?) : Tab w' p fp l m ad cap := by
  have hf := h.fp_eq
  subst hf
  exact ⟨by unfold Blk; rw [hk p (by simp)]; exact h.hdr, h.own.keep fun b hb => hk b (by simp [hb]), by rw [hk m (by simp)]; exact h.mp, rfl, h.few⟩
theorem Tab.lt {w : World} {p : Nat} {fp : List Nat} {l : List Str} {m : Nat} {ad : Option Addr} {cap : Nat} (h : Tab w p fp l m ad cap) : ∀ b, b ∈ fp → b < w.heap.size := by
  rw [h.fp_eq]
  intro b hb
  simp at hb
  rcases hb with rfl | rfl | hb
  · exact h.hdr.lt
  · exact (Array.getElem?_eq_some_iff.1 h.mp).1
  · exact h.own.lt b hb
theorem Tab.kp {w w' : World} {p : Nat} {fp : List Nat} {l : List Str} {m : Nat} {ad : Option Addr} {cap : Nat} (h : Tab w p fp l m ad cap) {Q : List Nat} (hk : Kp Q w w') (hd : ∀ b, b ∈ fp → b ∉ Q) : Tab w' p fp l m ad cap :=
  h.keep fun b hb => hk.at_ b (h.lt b hb) (hd b hb)
variable {w : World} {p : Nat} {fp : List Nat} {l : List Str} {m : Nat} {ad : Option Addr} {cap : Nat}

theorem there_ret (h : Tab w p fp l m ad cap) : Ret Tryd.prog 20 [ptr p] w (fun v w' => v = .bool true ∧ w' = w) := by
  refine enter Tryd.call20 Tryd.func20 rfl rfl rfl rfl ?_
  (repeat first|refine zA ?_|refine zg ?_|refine zo rfl rfl trivial ?_|refine zn ?_|refine zT rfl rfl rfl ?_)
  refine o_load rfl h.hdr rfl rfl rfl rfl rfl ?_
  (repeat first|refine zo rfl rfl trivial ?_|refine zn ?_|refine zr ?_)
  exact ⟨_, rfl, rfl, rfl⟩
def findV (l : List Str) (k : Str) : Value := .tuple #[I ((nidx l k).getD 0), .bool (nidx l k).isSome]
theorem find_ret (h : Tab w p fp l m ad cap) (k : Str) : Ret Tryd.prog 8 [ptr p, S k] w (fun v w' => v = findV l k ∧ w' = w) := by
  refine enter Tryd.call8 Tryd.func8 rfl rfl rfl rfl ?_
  (repeat first|refine zA ?_|refine zB ?_|refine zg ?_|refine zo rfl rfl trivial ?_|refine zn ?_)
  refine o_call (there_ret h) rfl rfl rfl ?_
  rintro v w' ⟨rfl, rfl⟩
  (repeat first|refine zA ?_|refine zg ?_|refine zo rfl rfl trivial ?_|refine zn ?_|refine zk ?_|refine zf rfl ?_)
  try refine r_no rfl rfl ?_
  refine o_load rfl h.hdr rfl rfl rfl rfl rfl ?_
  (repeat refine zo rfl rfl trivial ?_)
  have hf := findNow_tab k l 0 0
  unfold findV
  cases hn : nidx l k with
  | none =>
    rw [hn] at hf
    refine o_lookup2 none rfl rfl h.mp hf rfl rfl (.inl rfl) rfl rfl rfl rfl ?_
    (repeat first|refine zA ?_|refine zg ?_|refine zo rfl rfl trivial ?_|refine zn ?_|refine zr ?_)
    exact ⟨_, rfl, rfl, rfl⟩
  | some x =>
    rw [hn] at hf
    refine o_lookup2 _ rfl rfl h.mp hf rfl rfl (.inl rfl) rfl rfl rfl rfl ?_
    (repeat first|refine zA ?_|refine zg ?_|refine zo rfl rfl trivial ?_|refine zn ?_|refine zr ?_)
    exact ⟨_, rfl, by simp, rfl⟩

/-- what Add answers, and the names behind it -/
def addN (l : List Str) (s : Str) : Int := if nameB s = true ∧ nidx l s = none ∧ l.length < 131072 then l.length else 0
def addE (l : List Str) (s : Str) : Int := if nameB s = true then (if nidx l s = none then (if l.length < 131072 then 0 else 62) else 61) else 60
def addL (l : List Str) (s : Str) : List Str := if nameB s = true ∧ nidx l s = none ∧ l.length < 131072 then l ++ [s] else l
/-- what Add leaves -/
def AddPost (w w' : World) (p : Nat) (fp : List Nat) (l' : List Str) : Prop :=
  ∃ fp' m' ad' cap', Tab w' p fp' l' m' ad' cap' ∧ Kp fp w w' ∧ ∀ b, b ∈ fp' → b ∈ fp ∨ w.heap.size ≤ b
theorem add_ret (h : Tab w p fp l m ad cap) (s : Str) (hs : s.length ≤ 9223372036854775807) :
    Ret Tryd.prog 9 [ptr p, S s] w (fun v w' => v = .tuple #[I (addN l s), I (addE l s)] ∧ AddPost w w' p fp (addL l s)) := by
  refine enter Tryd.call9 Tryd.func9 rfl rfl rfl rfl ?_
  (repeat first|refine zA ?_|refine zB ?_|refine zg ?_|refine zo rfl rfl trivial ?_|refine zn ?_)
  refine o_call (there_ret h) rfl rfl rfl ?_
  rintro v w' ⟨rfl, rfl⟩
  (repeat first|refine zA ?_|refine zB ?_|refine zg ?_|refine zo rfl rfl trivial ?_|refine zn ?_|refine zk ?_|refine zf rfl ?_)
  try refine r_no rfl rfl ?_
  refine o_call (check_ret s hs _) rfl rfl rfl ?_
  rintro v w0 ⟨rfl, rfl⟩
  have stays : AddPost w0 w0 p fp l := ⟨fp, m, ad, cap, h, Kp.refl _ _, fun b hb => .inl hb⟩
  by_cases hn : nameB s = true
  · have hc : checkI s = 0 := by simp [checkI, hn]
    rw [hc]
    (repeat first|refine zA ?_|refine zB ?_|refine zg ?_|refine zo rfl rfl trivial ?_|refine zn ?_|refine zk ?_|refine zf rfl ?_)
    try refine r_no rfl rfl ?_
    refine o_load rfl h.hdr rfl rfl rfl rfl rfl ?_
    (repeat refine zo rfl rfl trivial ?_)
    have hf := findNow_tab s l 0 0
    cases hx : nidx l s with
    | some x =>
      rw [hx] at hf
      refine o_lookup2 _ rfl rfl h.mp hf rfl rfl (.inl rfl) rfl rfl rfl rfl ?_
      (repeat first|refine zA ?_|refine zg ?_|refine zo rfl rfl trivial ?_|refine zn ?_|refine zr ?_|refine zt rfl ?_)
      try refine r_yes rfl rfl ?_
      refine ⟨_, rfl, ?_, ?_⟩
      · simp [addN, addE, hn, hx]
      · simpa [addL, hn, hx] using stays
    | none =>
      rw [hx] at hf
      refine o_lookup2 none rfl rfl h.mp hf rfl rfl (.inl rfl) rfl rfl rfl rfl ?_
      (repeat first|refine zA ?_|refine zg ?_|refine zo rfl rfl trivial ?_|refine zn ?_|refine zk ?_|refine zf rfl ?_)
      try refine r_no rfl rfl ?_
      refine o_load rfl h.hdr rfl rfl rfl rfl rfl ?_
      (repeat first|refine zA ?_|refine zB ?_|refine zg ?_|refine zo rfl rfl trivial ?_|refine zn ?_)
      refine r_if rfl (fun hge => ?_) (fun hlt => ?_)
      · (repeat first|refine zA ?_|refine zg ?_|refine zo rfl rfl trivial ?_|refine zn ?_|refine zr ?_)
        refine ⟨_, rfl, ?_, ?_⟩
        · have : ¬ l.length < 131072 := by omega
          simp [addN, addE, hn, hx, this]
        · have : ¬ l.length < 131072 := by omega
          simpa [addL, hn, hx, this] using stays
      · have hlt' : l.length < 131072 := by omega
        (repeat first|refine zA ?_|refine zg ?_|refine zo rfl rfl trivial ?_|refine zk ?_)
        refine o_load rfl h.hdr rfl rfl rfl rfl rfl ?_
        (repeat refine zo rfl rfl trivial ?_)
        refine o_buildSlice [S s] rfl (by simp [Value.oneCell']) rfl (by decide) (by decide) rfl rfl rfl rfl rfl ?_
        intro b1 w1 hb1 hu1
        have hT1 := h.kp (hu1.kp [] (.inr (by omega))) (by simp)
        have hB1 : Blk w1 b1 [S s] 9 := hu1.blk
        have kp1 := hu1.kp fp (.inr (by omega))
        have hs1 := hu1.size
        clear hu1
        refine o_append1 rfl rfl hT1.own hB1 rfl rfl rfl rfl (by simp only [maxLen]; omega) (by omega) rfl rfl ?_
        intro ad' cap' w2 ho2 kp2 hnew
        have hfp := h.fp_eq
        have kp2' : Kp fp w1 w2 := kp2.mono (by rw [hfp]; intro b hb; simp [hb])
        have hH2 : Blk w2 p [.slice ad l.length cap, .map (some m)] 54 := kp2.blk hT1.p_ad hT1.hdr
        have hM2 : w2.heap[m]? = some (.map ⟨tabE l 0⟩ l.length) := by
          rw [kp2.at_ m (hT1.lt m (by simp [hfp])) hT1.m_ad]; exact hT1.mp
        (repeat refine zo rfl rfl trivial ?_)
        refine o_store rfl hH2 (by simp) rfl rfl rfl rfl rfl rfl ?_
        intro w3 hu3
        have hp1 : p < w1.heap.size := hT1.hdr.lt
        have hm1 : m < w1.heap.size := hT1.lt m (by simp [hfp])
        have hpad' : p ∉ blkOf ad' := fun hb => by
          rcases hnew p hb with h1 | h1
          · exact hT1.p_ad h1
          · omega
        have hmad' : m ∉ blkOf ad' := fun hb => by
          rcases hnew m hb with h1 | h1
          · exact hT1.m_ad h1
          · omega
        have kp3 := hu3.kp fp (.inl (by simp [hfp]))
        have ho3 := ho2.upd hu3 hpad'
        have hM3 := hu3.keep (Ne.symm hT1.pm) hM2
        have hH3 := hu3.blk
        (repeat first|refine zA ?_|refine zg ?_|refine zo rfl rfl trivial ?_|refine zn ?_)
        refine o_load rfl hH3 rfl rfl rfl rfl rfl ?_
        (repeat refine zo rfl rfl trivial ?_)
        refine o_insert rfl rfl rfl hM3 hf rfl rfl (.inl rfl) rfl rfl ?_
        intro w4 hu4
        have kp4 := hu4.kp fp (.inl (by simp [hfp]))
        have ho4 := ho3.upd hu4 hmad'
        have hH4 := hu4.kept hT1.pm hH3
        have hM4 := hu4.at_
        (repeat first|refine zA ?_|refine zg ?_|refine zo rfl rfl trivial ?_|refine zn ?_|refine zr ?_)
        refine ⟨_, rfl, by simp [addN, addE, hn, hx, hlt'], ?_⟩
        have hl : addL l s = l ++ [s] := by simp [addL, hn, hx, hlt']
        rw [hl]
        refine ⟨p :: m :: blkOf ad', m, ad', cap', ⟨?_, ?_, ?_, rfl, by simp; omega⟩, kp1.trans (kp2'.trans (kp3.trans kp4)), ?_⟩
        · simpa using hH4
        · simpa using ho4
        · rw [hM4]
          simp [tabE_push]
        · intro b hb
          simp at hb
          rw [hfp]
          rcases hb with rfl | rfl | hb
          · simp
          · simp
          · rcases hnew b hb with h1 | h1
            · simp [h1]
            · right; omega
  · have hc : checkI s = 60 := by simp [checkI, hn]
    rw [hc]
    (repeat first|refine zA ?_|refine zg ?_|refine zo rfl rfl trivial ?_|refine zn ?_|refine zr ?_|refine zt rfl ?_)
    try refine r_yes rfl rfl ?_
    refine ⟨_, rfl, ?_, ?_⟩
    · simp [addN, addE, hn]
    · simpa [addL, hn] using stays
end Go.Vc
/- New, works, short. -/
namespace Go.Vc
open Go Go.Proofs
set_option maxRecDepth 10000

def newGo : List Str → List Str → Option (List Str) × Int
  | acc, [] => (some acc, 0)
  | acc, s :: r => if addE acc s = 0 then newGo (addL acc s) r else (none, addE acc s)
def NewPost (w w' : World) (v : Value) : Option (List Str) × Int → Prop
  | (some l, x) => ∃ p fp m ad cap, v = .tuple #[ptr p, I x] ∧ Tab w' p fp l m ad cap ∧ Kp [] w w' ∧ ∀ b, b ∈ fp → w.heap.size ≤ b
  | (none, x) => v = .tuple #[.pointer none, I x] ∧ Kp [] w w'
variable {w : World} {p : Nat} {fp : List Nat} {l : List Str} {m : Nat} {ad : Option Addr} {cap : Nat}

theorem new_ret {ad : Option Addr} {cap : Nat} (names : List Str) (hr : ReadS w ad (names.map S)) (hs : ∀ s ∈ names, s.length ≤ 9223372036854775807) (hn : names.length ≤ 9223372036854775807) :
    Ret Tryd.prog 5 [.slice ad names.length cap] w (fun v w' => NewPost w w' v (newGo [] names)) := by
  refine enter Tryd.call5 Tryd.func5 rfl rfl rfl rfl ?_
  (repeat first|refine zA ?_|refine zg ?_|refine zo rfl rfl trivial ?_|refine zn ?_)
  refine o_makeMap rfl rfl ?_
  intro bm w1 hbm hu1
  have kp1 : Kp [] w w1 := hu1.kp [] (.inr (by omega))
  have hs1 := hu1.size
  have hM1 := hu1.at_
  have hbl := hu1.lt
  clear hu1
  refine o_build [.slice none 0 0, .map (some bm)] rfl rfl rfl rfl rfl rfl rfl ?_
  refine o_box rfl rfl rfl ?_
  intro bp w2 hbp hu2
  have kp2 : Kp [] w w2 := kp1.trans (hu2.kp [] (.inr (by omega)))
  have hM2 := hu2.keep (by omega) hM1
  have hH2 : Blk w2 bp [.slice none 0 0, .map (some bm)] 54 := hu2.blk
  clear hu2 kp1
  have hT2 : Tab w2 bp [bp, bm] [] bm none 0 := ⟨hH2, ownS_nil _ _ _, hM2, rfl, by simp⟩
  (repeat first|refine zA ?_|refine zB ?_|refine zg ?_|refine zo rfl rfl trivial ?_|refine zn ?_|refine zb ?_)
  refine r_loop (α := Nat × List Str) [4, 12, 13, 14] (fun g => [ptr bp, .slice ad names.length cap, I names.length, I g.1])
    (fun g w' => g.1 ≤ names.length ∧ Kp [] w w' ∧ newGo [] names = newGo g.2 (names.drop g.1) ∧ ∃ fp m ad cap, Tab w' bp fp g.2 m ad cap ∧ ∀ b, b ∈ fp → w.heap.size ≤ b) (fun g => names.length - g.1) (0, []) rfl
    ⟨by omega, kp2, rfl, _, _, _, _, hT2, by simp; omega⟩ ?_
  rintro ⟨k, acc⟩ e w3 ⟨hk, kp3, hgo, fp, m3, ad3, cap3, hT3, hfp⟩
  dsimp only at hk hgo hT3
  (repeat first|refine zA ?_|refine zD ?_|refine zg ?_|refine zo rfl rfl trivial ?_|refine zn ?_)
  refine r_if rfl (fun hlt => ?_) (fun hge => ?_)
  · have hlt : k < names.length := by omega
    have hgo' : newGo acc (names.drop k) = if addE acc names[k] = 0 then newGo (addL acc names[k]) (names.drop (k + 1)) else (none, addE acc names[k]) := by
      rw [List.drop_eq_getElem_cons hlt]; rfl
    obtain ⟨b, off, rfl, _, hcell⟩ := (hr.kp kp3 (by simp)).at_ (by simp; omega)
    · (repeat first|refine zA ?_|refine zC ?_|refine zg ?_|refine zo rfl rfl (by first|exact trivial|(simp only[AllP];omega)) ?_|refine zb ?_|refine zk ?_)
      refine o_loadc rfl (hcell k (S names[k]) (by simp [hlt])) rfl rfl rfl rfl ?_
      (repeat first|refine zA ?_|refine zg ?_|refine zo rfl rfl trivial ?_|refine zn ?_)
      refine o_call (add_ret hT3 names[k] (hs _ (List.getElem_mem hlt))) rfl rfl rfl ?_
      rintro v w4 ⟨rfl, fp', m4, ad4, cap4, hT4, kp4, hfp4⟩
      have kp5 : Kp [] w w4 := kp3.since kp4 hfp
      (repeat first|refine zA ?_|refine zg ?_|refine zo rfl rfl trivial ?_|refine zn ?_)
      refine r_ifn rfl (fun hne => ?_) (fun heq => ?_)
      · (repeat first|refine zA ?_|refine zg ?_|refine zo rfl rfl trivial ?_|refine zn ?_|refine zr ?_)
        refine ⟨_, rfl, ?_⟩
        rw [hgo, hgo', if_neg hne]
        exact ⟨rfl, kp5⟩
      · (repeat first|refine zg ?_|refine zo rfl rfl (by first|exact trivial|(simp only[AllP];omega)) ?_|refine zn ?_|refine zk ?_)
        refine ⟨(k + 1, addL acc names[k]), rfl, ⟨hlt, kp5, ?_, fp', m4, ad4, cap4, hT4, ?_⟩, by show _ - (k + 1) < _ - k; omega⟩
        · rw [hgo, hgo', if_pos heq]
        · intro b hb
          rcases hfp4 b hb with h1 | h1
          · exact hfp b h1
          · exact Nat.le_trans kp3.size h1
  · (repeat first|refine zA ?_|refine zg ?_|refine zo rfl rfl trivial ?_|refine zn ?_|refine ze rfl ?_|refine zr ?_)
    refine ⟨_, rfl, ?_⟩
    have hk' : k = names.length := by omega
    subst hk'
    rw [hgo, List.drop_length]
    exact ⟨bp, fp, m3, ad3, cap3, rfl, hT3, kp3, hfp⟩

theorem works_ret : Ret Tryd.prog 7 [] w (fun v w' => v = .bool true ∧ Kp [] w w') := by
  refine enter Tryd.call7 Tryd.func7 rfl rfl rfl rfl ?_
  (repeat first|refine zA ?_|refine zg ?_|refine zo rfl rfl trivial ?_|refine zn ?_)
  refine o_buildSlice [S [99, 111, 117, 110, 116], S [99, 111, 110, 117, 116]] rfl (by simp [Value.oneCell']) rfl (by decide) (by decide) rfl rfl rfl rfl rfl ?_
  intro b1 w1 hb1 hu1
  have kp1 : Kp [] w w1 := hu1.kp [] (.inr (by omega))
  have hB1 := hu1.blk
  have hr1 : ReadS w1 (some ⟨b1, 0, none⟩) ([[99, 111, 117, 110, 116], [99, 111, 110, 117, 116]].map S) := ReadS.mk fun i v hv => by rw [Nat.zero_add]; exact hB1.cell hv
  refine o_call (new_ret (cap := 2) [[99, 111, 117, 110, 116], [99, 111, 110, 117, 116]] hr1 (by simp) (by simp)) rfl rfl rfl ?_
  intro v w2 hp
  have hgo : newGo [] [[99, 111, 117, 110, 116], [99, 111, 110, 117, 116]] = (some [[99, 111, 117, 110, 116], [99, 111, 110, 117, 116]], 0) := by decide
  rw [hgo] at hp
  obtain ⟨p, fp, m, ad, cap, rfl, hT, kp2, hfp⟩ := hp
  have kp2 := kp1.trans kp2
  (repeat first|refine zA ?_|refine zg ?_|refine zo rfl rfl trivial ?_|refine zn ?_)
  refine o_call (find_ret hT [99, 111, 110, 117, 116]) rfl rfl rfl ?_
  rintro v w3 ⟨rfl, rfl⟩
  have hf : findV [[99, 111, 117, 110, 116], [99, 111, 110, 117, 116]] [99, 111, 110, 117, 116] = .tuple #[I 1, .bool true] := by rfl
  rw [hf]
  (repeat first|refine zA ?_|refine zg ?_|refine zo rfl rfl trivial ?_|refine zn ?_)
  refine o_call (add_ret hT [99, 111, 117, 110, 116] (by decide)) rfl rfl rfl ?_
  rintro v w4 ⟨rfl, fp', m', ad', cap', hT', kp4, _⟩
  have kp4 := kp2.since kp4 (fun b hb => Nat.le_trans kp1.size (hfp b hb))
  have ha : addE [[99, 111, 117, 110, 116], [99, 111, 110, 117, 116]] [99, 111, 117, 110, 116] = 61 := by decide
  rw [ha]
  (repeat first|refine zA ?_|refine zg ?_|refine zo rfl rfl trivial ?_|refine zn ?_)
  refine o_call (num_ret _ _) rfl rfl rfl ?_
  rintro v w5 ⟨rfl, rfl⟩
  (repeat first|refine zo rfl rfl trivial ?_|refine zT rfl rfl rfl ?_)
  refine o_is true _ _ rfl rfl rfl (by decide) ?_
  refine o_is true _ _ rfl rfl rfl (by decide) ?_
  refine o_call (num_ret _ _) rfl rfl rfl ?_
  rintro v w6 ⟨rfl, rfl⟩
  (repeat first|refine zo rfl rfl trivial ?_|refine zT rfl rfl rfl ?_)
  refine o_is true _ _ rfl rfl rfl (by decide) ?_
  refine o_call (distance_ret _ _ _) rfl rfl rfl ?_
  rintro v w7 ⟨rfl, kp7⟩
  have hd : dist [107, 105, 116, 116, 101, 110] [115, 105, 116, 116, 105, 110, 103] = 3 := by decide
  rw [hd]
  (repeat first|refine zo rfl rfl trivial ?_|refine zT rfl rfl rfl ?_)
  refine o_is true _ _ rfl rfl rfl (by decide) ?_
  refine o_call (check_ret _ (by decide) _) rfl rfl rfl ?_
  rintro v w8 ⟨rfl, rfl⟩
  have hc : checkI [49, 97] = 60 := by decide
  rw [hc]
  refine o_call (num_ret _ _) rfl rfl rfl ?_
  rintro v w9 ⟨rfl, rfl⟩
  (repeat first|refine zo rfl rfl trivial ?_|refine zn ?_|refine zr ?_)
  exact ⟨_, rfl, rfl, kp4.trans kp7⟩
end Go.Vc
