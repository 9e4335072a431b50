/- The table of names: New, Add, Find, there. -/
import Derived.Test.YtghdpibdidfpbaaQClNOrder6
import Derived.Test.YtghdpibdidfpbaaQClNOrder5
import Derived.Test.YtghdpibdidfpbaaRows
import Derived.OpenShut
import Derived.Deep.DeepHandedRow
import Derived.SliceStrings
namespace Go.Vc
open Go Go.Proofs
set_option maxRecDepth 10000

abbrev Str := List UInt8
def tabE : List Str → Nat → List MapEntry
  | [], _ => []
  | s :: r, i => ⟨S s, I i, i⟩ :: tabE r (i + 1)
/-- the first place of a text -/
def nidx : List Str → Str → Option Nat
  | [], _ => none
  | s :: r, k => if k = s then some 0 else (nidx r k).map (· + 1)
theorem beq_str (k s : Str) : ((ByteArray.mk ⟨k⟩) == (ByteArray.mk ⟨s⟩)) = decide (k = s) := by
  have : ((ByteArray.mk ⟨k⟩) == (ByteArray.mk ⟨s⟩)) = ((Array.mk k) == (Array.mk s)) := rfl
  rw [this, Bool.eq_iff_iff]; simp
theorem findNow_tab (k : Str) : ∀ (l : List Str) (i j : Nat), Instr.findNow .string (S k) (tabE l i) j = some ((nidx l k).map fun x => (j + x, I (i + x : Nat)))
  | [], i, j => rfl
  | s :: r, i, j => by
    simp only [tabE, Instr.findNow, Instr.sameNow, beq_str, nidx]
    by_cases h : k = s
    · simp [h]
    · rw [decide_eq_false h, if_neg h]
      dsimp only
      rw [findNow_tab k r (i + 1) (j + 1)]
      cases nidx r k with
      | none => rfl
      | some x => simp; omega
theorem tabE_push (s : Str) : ∀ (l : List Str) (i : Nat), tabE (l ++ [s]) i = tabE l i ++ [⟨S s, I (i + l.length : Nat), i + l.length⟩]
  | [], i => by simp [tabE]
  | x :: r, i => by
    simp only [List.cons_append, tabE, tabE_push s r (i + 1), List.length_cons]
    have : i + 1 + r.length = i + (r.length + 1) := by omega
    rw [this]

/-- a table made by New -/
structure Tab (w : World) (p : Nat) (fp : List Nat) (l : List Str) (m : Nat) (ad : Option Addr) (cap : Nat) : Prop where
  hdr : Blk w p [.slice ad l.length cap, .map (some m)] 57
  own : OwnS w 9 1 ad l.length cap (l.map S)
  mp : w.heap[m]? = some (.map ⟨tabE l 0⟩ l.length)
  fp_eq : fp = p :: m :: blkOf ad
  few : l.length ≤ 131072
theorem Tab.pm {w : World} {p : Nat} {fp : List Nat} {l : List Str} {m : Nat} {ad : Option Addr} {cap : Nat} (h : Tab w p fp l m ad cap) : p ≠ m := by
  rintro rfl; have h1 := h.hdr; have h2 := h.mp; unfold Blk at h1; rw [h1] at h2; cases h2
theorem Tab.p_ad {w : World} {p : Nat} {fp : List Nat} {l : List Str} {m : Nat} {ad : Option Addr} {cap : Nat} (h : Tab w p fp l m ad cap) : p ∉ blkOf ad := by
  intro hb
  have h1 := h.hdr; have h2 := h.own.2
  cases ad with
  | none => simp [blkOf] at hb
  | some ad =>
    simp [blkOf] at hb; subst hb
    obtain ⟨_, _, _, _, junk, h5, _⟩ := h2
    unfold Blk at h1 h5; rw [h1] at h5; simp at h5
theorem Tab.m_ad {w : World} {p : Nat} {fp : List Nat} {l : List Str} {m : Nat} {ad : Option Addr} {cap : Nat} (h : Tab w p fp l m ad cap) : m ∉ blkOf ad := by
  intro hb
  have h1 := h.mp; have h2 := h.own.2
  cases ad with
  | none => simp [blkOf] at hb
  | some ad =>
    simp [blkOf] at hb; subst hb
    obtain ⟨_, _, _, _, junk, h5, _⟩ := h2
    unfold Blk at h5; rw [h1] at h5; simp at h5
theorem Tab.keep {w w' : World} {p : Nat} {fp : List Nat} {l : List Str} {m : Nat} {ad : Option Addr} {cap : Nat} (h : Tab w p fp l m ad cap) (hk : ∀ b, b ∈ fp → w'.heap[b]? = w.heap[b]?) : Tab w' p fp l m ad cap := by
  have hf := h.fp_eq
  subst hf
  exact ⟨by unfold Blk; rw [hk p (by simp)]; exact h.hdr, h.own.keep fun b hb => hk b (by simp [hb]), by rw [hk m (by simp)]; exact h.mp, rfl, h.few⟩
theorem Tab.lt {w : World} {p : Nat} {fp : List Nat} {l : List Str} {m : Nat} {ad : Option Addr} {cap : Nat} (h : Tab w p fp l m ad cap) : ∀ b, b ∈ fp → b < w.heap.size := by
  rw [h.fp_eq]
  intro b hb
  simp at hb
  rcases hb with rfl | rfl | hb
  · exact h.hdr.lt
  · exact (Array.getElem?_eq_some_iff.1 h.mp).1
  · exact h.own.lt b hb
theorem Tab.kp {w w' : World} {p : Nat} {fp : List Nat} {l : List Str} {m : Nat} {ad : Option Addr} {cap : Nat} (h : Tab w p fp l m ad cap) {Q : List Nat} (hk : Kp Q w w') (hd : ∀ b, b ∈ fp → b ∉ Q) : Tab w' p fp l m ad cap :=
  h.keep fun b hb => hk.at_ b (h.lt b hb) (hd b hb)
variable {w : World} {p : Nat} {fp : List Nat} {l : List Str} {m : Nat} {ad : Option Addr} {cap : Nat}

theorem there_ret (h : Tab w p fp l m ad cap) : Ret Try.prog 29 [ptr p] w (fun v w' => v = .bool true ∧ w' = w) := by
  refine enter Try.call29 Try.func29 rfl rfl rfl rfl ?_
  (repeat first|refine zA ?_|refine zg ?_|refine zo rfl rfl trivial ?_|refine zn ?_|refine zT rfl rfl rfl ?_)
  refine o_load rfl h.hdr rfl rfl rfl rfl rfl ?_
  (repeat first|refine zo rfl rfl trivial ?_|refine zn ?_|refine zr ?_)
  exact ⟨_, rfl, rfl, rfl⟩
def findV (l : List Str) (k : Str) : Value := .tuple #[I ((nidx l k).getD 0), .bool (nidx l k).isSome]
theorem find_ret (h : Tab w p fp l m ad cap) (k : Str) : Ret Try.prog 25 [ptr p, S k] w (fun v w' => v = findV l k ∧ w' = w) := by
  refine enter Try.call25 Try.func25 rfl rfl rfl rfl ?_
  (repeat first|refine zA ?_|refine zB ?_|refine zg ?_|refine zo rfl rfl trivial ?_|refine zn ?_)
  refine o_call (there_ret h) rfl rfl rfl ?_
  rintro v w' ⟨rfl, rfl⟩
  (repeat first|refine zA ?_|refine zg ?_|refine zo rfl rfl trivial ?_|refine zn ?_|refine zk ?_|refine zf rfl ?_)
  try refine r_no rfl rfl ?_
  refine o_load rfl h.hdr rfl rfl rfl rfl rfl ?_
  (repeat refine zo rfl rfl trivial ?_)
  have hf := findNow_tab k l 0 0
  unfold findV
  cases hn : nidx l k with
  | none =>
    rw [hn] at hf
    refine o_lookup2 none rfl rfl h.mp hf rfl rfl (.inl rfl) rfl rfl rfl rfl ?_
    (repeat first|refine zA ?_|refine zg ?_|refine zo rfl rfl trivial ?_|refine zn ?_|refine zr ?_)
    exact ⟨_, rfl, rfl, rfl⟩
  | some x =>
    rw [hn] at hf
    refine o_lookup2 _ rfl rfl h.mp hf rfl rfl (.inl rfl) rfl rfl rfl rfl ?_
    (repeat first|refine zA ?_|refine zg ?_|refine zo rfl rfl trivial ?_|refine zn ?_|refine zr ?_)
    exact ⟨_, rfl, by simp, rfl⟩

/-- what Add answers, and the names behind it -/
def addN (l : List Str) (s : Str) : Int := if nameB s = true ∧ nidx l s = none ∧ l.length < 131072 then l.length else 0
def addE (l : List Str) (s : Str) : Int := if nameB s = true then (if nidx l s = none then (if l.length < 131072 then 0 else 62) else 61) else 60
def addL (l : List Str) (s : Str) : List Str := if nameB s = true ∧ nidx l s = none ∧ l.length < 131072 then l ++ [s] else l
/-- what Add leaves -/
def AddPost (w w' : World) (p : Nat) (fp : List Nat) (l' : List Str) : Prop :=
  ∃ fp' m' ad' cap', Tab w' p fp' l' m' ad' cap' ∧ Kp fp w w' ∧ ∀ b, b ∈ fp' → b ∈ fp ∨ w.heap.size ≤ b
theorem add_ret (h : Tab w p fp l m ad cap) (s : Str) (hs : s.length ≤ 9223372036854775807) :
    Ret Try.prog 18 [ptr p, S s] w (fun v w' => v = .tuple #[I (addN l s), I (addE l s)] ∧ AddPost w w' p fp (addL l s)) := by
  refine enter Try.call18 Try.func18 rfl rfl rfl rfl ?_
  (repeat first|refine zA ?_|refine zB ?_|refine zg ?_|refine zo rfl rfl trivial ?_|refine zn ?_)
  refine o_call (there_ret h) rfl rfl rfl ?_
  rintro v w' ⟨rfl, rfl⟩
  (repeat first|refine zA ?_|refine zB ?_|refine zg ?_|refine zo rfl rfl trivial ?_|refine zn ?_|refine zk ?_|refine zf rfl ?_)
  try refine r_no rfl rfl ?_
  refine o_call (check_ret s hs _) rfl rfl rfl ?_
  rintro v w0 ⟨rfl, rfl⟩
  have stays : AddPost w0 w0 p fp l := ⟨fp, m, ad, cap, h, Kp.refl _ _, fun b hb => .inl hb⟩
  by_cases hn : nameB s = true
  · have hc : checkI s = 0 := by simp [checkI, hn]
    rw [hc]
    (repeat first|refine zA ?_|refine zB ?_|refine zg ?_|refine zo rfl rfl trivial ?_|refine zn ?_|refine zk ?_|refine zf rfl ?_)
    try refine r_no rfl rfl ?_
    refine o_load rfl h.hdr rfl rfl rfl rfl rfl ?_
    (repeat refine zo rfl rfl trivial ?_)
    have hf := findNow_tab s l 0 0
    cases hx : nidx l s with
    | some x =>
      rw [hx] at hf
      refine o_lookup2 _ rfl rfl h.mp hf rfl rfl (.inl rfl) rfl rfl rfl rfl ?_
      (repeat first|refine zA ?_|refine zg ?_|refine zo rfl rfl trivial ?_|refine zn ?_|refine zr ?_|refine zt rfl ?_)
      try refine r_yes rfl rfl ?_
      refine ⟨_, rfl, ?_, ?_⟩
      · simp [addN, addE, hn, hx]
      · simpa [addL, hn, hx] using stays
    | none =>
      rw [hx] at hf
      refine o_lookup2 none rfl rfl h.mp hf rfl rfl (.inl rfl) rfl rfl rfl rfl ?_
      (repeat first|refine zA ?_|refine zg ?_|refine zo rfl rfl trivial ?_|refine zn ?_|refine zk ?_|refine zf rfl ?_)
      try refine r_no rfl rfl ?_
      refine o_load rfl h.hdr rfl rfl rfl rfl rfl ?_
      (repeat first|refine zA ?_|refine zB ?_|refine zg ?_|refine zo rfl rfl trivial ?_|refine zn ?_)
      refine r_if rfl (fun hge => ?_) (fun hlt => ?_)
      · (repeat first|refine zA ?_|refine zg ?_|refine zo rfl rfl trivial ?_|refine zn ?_|refine zr ?_)
        refine ⟨_, rfl, ?_, ?_⟩
        · have : ¬ l.length < 131072 := by omega
          simp [addN, addE, hn, hx, this]
        · have : ¬ l.length < 131072 := by omega
          simpa [addL, hn, hx, this] using stays
      · have hlt' : l.length < 131072 := by omega
        (repeat first|refine zA ?_|refine zg ?_|refine zo rfl rfl trivial ?_|refine zk ?_)
        refine o_load rfl h.hdr rfl rfl rfl rfl rfl ?_
        (repeat refine zo rfl rfl trivial ?_)
        refine o_buildSlice [S s] rfl (by simp [Value.oneCell']) rfl (by decide) (by decide) rfl rfl rfl rfl rfl ?_
        intro b1 w1 hb1 hu1
        have hT1 := h.kp (hu1.kp [] (.inr (by omega))) (by simp)
        have hB1 : Blk w1 b1 [S s] 9 := hu1.blk
        have kp1 := hu1.kp fp (.inr (by omega))
        have hs1 := hu1.size
        clear hu1
        refine o_append1 rfl rfl hT1.own hB1 rfl rfl rfl rfl (by simp only [maxLen]; omega) (by omega) rfl rfl ?_
        intro ad' cap' w2 ho2 kp2 hnew
        have hfp := h.fp_eq
        have kp2' : Kp fp w1 w2 := kp2.mono (by rw [hfp]; intro b hb; simp [hb])
        have hH2 : Blk w2 p [.slice ad l.length cap, .map (some m)] 57 := kp2.blk hT1.p_ad hT1.hdr
        have hM2 : w2.heap[m]? = some (.map ⟨tabE l 0⟩ l.length) := by
          rw [kp2.at_ m (hT1.lt m (by simp [hfp])) hT1.m_ad]; exact hT1.mp
        (repeat refine zo rfl rfl trivial ?_)
        refine o_store rfl hH2 (by simp) rfl rfl rfl rfl rfl rfl ?_
        intro w3 hu3
        have hp1 : p < w1.heap.size := hT1.hdr.lt
        have hm1 : m < w1.heap.size := hT1.lt m (by simp [hfp])
        have hpad' : p ∉ blkOf ad' := fun hb => by
          rcases hnew p hb with h1 | h1
          · exact hT1.p_ad h1
          · omega
        have hmad' : m ∉ blkOf ad' := fun hb => by
          rcases hnew m hb with h1 | h1
          · exact hT1.m_ad h1
          · omega
        have kp3 := hu3.kp fp (.inl (by simp [hfp]))
        have ho3 := ho2.upd hu3 hpad'
        have hM3 := hu3.keep (Ne.symm hT1.pm) hM2
        have hH3 := hu3.blk
        (repeat first|refine zA ?_|refine zg ?_|refine zo rfl rfl trivial ?_|refine zn ?_)
        refine o_load rfl hH3 rfl rfl rfl rfl rfl ?_
        (repeat refine zo rfl rfl trivial ?_)
        refine o_insert rfl rfl rfl hM3 hf rfl rfl (.inl rfl) rfl rfl ?_
        intro w4 hu4
        have kp4 := hu4.kp fp (.inl (by simp [hfp]))
        have ho4 := ho3.upd hu4 hmad'
        have hH4 := hu4.kept hT1.pm hH3
        have hM4 := hu4.at_
        (repeat first|refine zA ?_|refine zg ?_|refine zo rfl rfl trivial ?_|refine zn ?_|refine zr ?_)
        refine ⟨_, rfl, by simp [addN, addE, hn, hx, hlt'], ?_⟩
        have hl : addL l s = l ++ [s] := by simp [addL, hn, hx, hlt']
        rw [hl]
        refine ⟨p :: m :: blkOf ad', m, ad', cap', ⟨?_, ?_, ?_, rfl, by simp; omega⟩, kp1.trans (kp2'.trans (kp3.trans kp4)), ?_⟩
        · simpa using hH4
        · simpa using ho4
        · rw [hM4]
          simp [tabE_push]
        · intro b hb
          simp at hb
          rw [hfp]
          rcases hb with rfl | rfl | hb
          · simp
          · simp
          · rcases hnew b hb with h1 | h1
            · simp [h1]
            · right; omega
  · have hc : checkI s = 60 := by simp [checkI, hn]
    rw [hc]
    (repeat first|refine zA ?_|refine zg ?_|refine zo rfl rfl trivial ?_|refine zn ?_|refine zr ?_|refine zt rfl ?_)
    try refine r_yes rfl rfl ?_
    refine ⟨_, rfl, ?_, ?_⟩
    · simp [addN, addE, hn]
    · simpa [addL, hn] using stays
end Go.Vc
/- Reading of a slice of texts, and of a struct with one. -/
namespace Go.Vc
open Go Go.Proofs Go.ChangeShapes Go.WideShapes Go.ChangeAt Go.RowKit
variable {H : Type} {enc : TypeId × Value → H} {w : World} {base : Nat} {sp : Nat → Bool} {held : Bool} {fuel : Nat} {d : DataW H} {ps : List MemPlace}
theorem bulk_strs : ∀ (ss : List ByteArray), ss.length ≤ Go.Proofs.Ytghdpibdidfpbaa.Rows.uptoBulkAll (strs (H := H) ss)
  | [] => Nat.zero_le _
  | s :: r => by
    have ih := bulk_strs r
    show r.length + 1 ≤ Go.Proofs.Ytghdpibdidfpbaa.Rows.uptoBulk (DataW.lit (H := H) (.string s.data.toList)) + Go.Proofs.Ytghdpibdidfpbaa.Rows.uptoBulkAll (strs (H := H) r)
    simp only [Go.Proofs.Ytghdpibdidfpbaa.Rows.uptoBulk]; omega
theorem rd_strs {a : Option Addr} {len cap : Nat} (h : DataW.trod enc Try.prog w base sp held fuel 36 (Value.slice a len cap).cells.toList = some (d, ps)) :
    ∃ l : List Str, (ReadS w a (l.map S) ∧ l.length = len ∧ (∀ s ∈ l, s.length ≤ 9223372036854775807) ∧ len ≤ 9223372036854775807) ∧ l.length ≤ Go.Proofs.Ytghdpibdidfpbaa.Rows.uptoBulk d := by
  rcases open_strings Try.underlying36 Try.underlying9 (by kernel_rfl) h with ⟨hcs, _⟩ | ⟨x, l, c, ss, hcs, _, hl, hm, hz, hd, hcell, hwz⟩
  · simp [Value.cells] at hcs
    obtain ⟨rfl, rfl, rfl⟩ := hcs
    exact ⟨[], ⟨rfl, rfl, by simp, by simp⟩, by simp⟩
  · simp [Value.cells] at hcs
    obtain ⟨rfl, rfl, rfl⟩ := hcs
    have hlen : len ≤ ss.length := by rw [hz]; split <;> omega
    refine ⟨(ss.take len).map fun s => s.data.toList, ⟨?_, by simp; omega, fun s hs => ?_, by simp only [maxLen] at hm; omega⟩, ?_⟩
    · intro i v hv
      rw [List.getElem?_map, List.getElem?_map] at hv
      cases hi : (ss.take len)[i]? with
      | none => rw [hi] at hv; cases hv
      | some b =>
        rw [hi] at hv
        obtain ⟨h1, h2⟩ := List.getElem?_eq_some_iff.1 hi
        simp at h1
        have := hcell i (by omega)
        rw [this, ← Option.some.inj hv, ← h2]
        simp [List.getElem?_eq_getElem (show i < ss.length by omega)]
    · obtain ⟨b, hb, rfl⟩ := List.mem_map.1 hs
      have := hwz b (List.mem_of_mem_take hb)
      simp only [maxLen] at this
      simpa using this
    · have hd1 := congrArg Prod.fst hd
      dsimp only at hd1
      rw [hd1]
      simp only [Go.Proofs.Ytghdpibdidfpbaa.Rows.uptoBulk]
      have := bulk_strs (H := H) (ss.take len)
      simp only [List.length_map]
      omega
theorem trod_flt {P : Program} {t : TypeId} {k : FloatKind} {v : Value} {x : DataW H × List MemPlace} (ht : P.underlying t = some (.float k)) (h : DataW.trod enc P w base sp held fuel t [v] = some x) : ∃ b, v = .float k b := by
  cases fuel with
  | zero => simp [DataW.trod] at h
  | succ n =>
    unfold DataW.trod at h
    rw [ht] at h
    cases v <;> simp at h
    obtain ⟨⟨rfl, hw⟩, _⟩ := h
    exact ⟨_, rfl⟩
theorem rdS_strs {v : Value} (h : DataW.trod enc Try.prog w base sp held fuel 36 [v] = some (d, ps)) :
    ∃ a cap, ∃ l : List Str, v = .slice a l.length cap ∧ ReadS w a (l.map S) ∧ (∀ s ∈ l, s.length ≤ 9223372036854775807) ∧ l.length ≤ 9223372036854775807 := by
  rcases open_strings Try.underlying36 Try.underlying9 (by kernel_rfl) h with ⟨hcs, _⟩ | ⟨x, l, c, ss, hcs, _, hl, hm, hz, hd, hcell, hwz⟩
  · obtain rfl := List.head_eq_of_cons_eq hcs
    exact ⟨none, 0, [], rfl, rfl, by simp, by simp⟩
  · obtain rfl := List.head_eq_of_cons_eq hcs
    obtain ⟨l', ⟨h1, h2, h3, h4⟩, _⟩ := rd_strs (a := some x) (len := l) (cap := c) h
    exact ⟨some x, c, l', by rw [h2], h1, h3, by omega⟩
/-- what NamesOrder asks -/
structure AskN where
  a : Option Addr
  cap : Nat
  list : List Str
  name : Str
  most : Int
  least : Nat
def askN (x : AskN) (_ : Option Addr) (_ : Nat) : List Value := [.slice x.a x.list.length x.cap, S x.name, I x.most, .float .f64 x.least]
theorem rd_ask {cs : Array Value} (h : DataW.trod enc Try.prog w base sp held fuel 38 (Value.agg cs).cells.toList = some (d, ps)) :
    ∃ (x : AskN) (pad : Option Addr) (cap : Nat), (cs = ⟨askN x pad cap⟩ ∧ ReadS w x.a (x.list.map S) ∧ (∀ s ∈ x.list, s.length ≤ 9223372036854775807) ∧ x.list.length ≤ 9223372036854775807 ∧ -9223372036854775808 ≤ x.most ∧ x.most ≤ 9223372036854775807) ∧ 0 ≤ Go.Proofs.Ytghdpibdidfpbaa.Rows.uptoBulk d := by
  have h : DataW.trod enc Try.prog w base sp held fuel 38 cs.toList = some (d, ps) := h
  obtain ⟨xs, m, _, gx, g1, g5, g6⟩ := DataW.trod_struct Try.underlying38 h
  obtain ⟨cs⟩ := cs
  have g1 : cs.length = 4 := g1
  match cs, g1 with
  | [c0, c1, c2, c3], _ =>
    have f0 := g6 0 _ rfl
    have f1 := g6 1 _ rfl
    have f2 := g6 2 _ rfl
    have f3 := g6 3 _ rfl
    have l6 : xs.length = 4 := g5
    rw [List.getElem?_eq_getElem (by omega)] at f0 f1 f2 f3
    obtain ⟨a0, cap0, z0, rfl, r0, r1, r2⟩ := rdS_strs f0
    obtain ⟨z1, rfl, w1, _⟩ := trod_str (by kernel_rfl) f1
    obtain ⟨z2, rfl, w2⟩ := trod_int (k := .i64) (by kernel_rfl) f2
    obtain ⟨z3, rfl⟩ := trod_flt (k := .f64) (by kernel_rfl) f3
    have w2 : -9223372036854775808 ≤ z2 ∧ z2 ≤ 9223372036854775807 := by simpa [Lit.wf, IntKind.min, IntKind.max, IntKind.signed, IntKind.bits] using w2
    exact ⟨⟨a0, cap0, z0, z1.data.toList, z2, z3⟩, none, 0, ⟨rfl, r0, r1, r2, w2⟩, Nat.zero_le _⟩
end Go.Vc
