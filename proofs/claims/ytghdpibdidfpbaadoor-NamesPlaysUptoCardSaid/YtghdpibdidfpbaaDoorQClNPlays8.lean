/- Reading of a slice of texts, and of a struct with one. -/
import Derived.Test.YtghdpibdidfpbaaDoorRows
import Derived.Test.YtghdpibdidfpbaaDoorQClNPlays6
import Derived.Test.YtghdpibdidfpbaaDoorQClNPlays7
import Derived.OpenShut
import Derived.Deep.DeepHandedRow
import Derived.SliceStrings
namespace Go.Vc
open Go Go.Proofs Go.ChangeShapes Go.WideShapes Go.ChangeAt Go.RowKit
variable {H : Type} {enc : TypeId × Value → H} {w : World} {base : Nat} {sp : Nat → Bool} {held : Bool} {fuel : Nat} {d : DataW H} {ps : List MemPlace}
theorem bulk_strs : ∀ (ss : List ByteArray), ss.length ≤ Go.Proofs.YtghdpibdidfpbaaDoor.Rows.uptoBulkAll (strs (H := H) ss)
  | [] => Nat.zero_le _
  | s :: r => by
    have ih := bulk_strs r
    show r.length + 1 ≤ Go.Proofs.YtghdpibdidfpbaaDoor.Rows.uptoBulk (DataW.lit (H := H) (.string s.data.toList)) + Go.Proofs.YtghdpibdidfpbaaDoor.Rows.uptoBulkAll (strs (H := H) r)
    simp only [Go.Proofs.YtghdpibdidfpbaaDoor.Rows.uptoBulk]; omega
theorem rd_strs {a : Option Addr} {len cap : Nat} (h : DataW.trod enc Tryd.prog w base sp held fuel 22 (Value.slice a len cap).cells.toList = some (d, ps)) :
    ∃ l : List Str, (ReadS w a (l.map S) ∧ l.length = len ∧ (∀ s ∈ l, s.length ≤ 9223372036854775807) ∧ len ≤ 9223372036854775807) ∧ l.length ≤ Go.Proofs.YtghdpibdidfpbaaDoor.Rows.uptoBulk d := by
  rcases open_strings Tryd.underlying22 Tryd.underlying9 (by kernel_rfl) h with ⟨hcs, _⟩ | ⟨x, l, c, ss, hcs, _, hl, hm, hz, hd, hcell, hwz⟩
  · simp [Value.cells] at hcs
    obtain ⟨rfl, rfl, rfl⟩ := hcs
    exact ⟨[], ⟨rfl, rfl, by simp, by simp⟩, by simp⟩
  · simp [Value.cells] at hcs
    obtain ⟨rfl, rfl, rfl⟩ := hcs
    have hlen : len ≤ ss.length := by rw [hz]; split <;> omega
    refine ⟨(ss.take len).map fun s => s.data.toList, ⟨?_, by simp; omega, fun s hs => ?_, by simp only [maxLen] at hm; omega⟩, ?_⟩
    · intro i v hv
      rw [List.getElem?_map, List.getElem?_map] at hv
      cases hi : (ss.take len)[i]? with
      | none => rw [hi] at hv; cases hv
      | some b =>
        rw [hi] at hv
        obtain ⟨h1, h2⟩ := List.getElem?_eq_some_iff.1 hi
        simp at h1
        have := hcell i (by omega)
        rw [this, ← Option.some.inj hv, ← h2]
        simp [List.getElem?_eq_getElem (show i < ss.length by omega)]
    · obtain ⟨b, hb, rfl⟩ := List.mem_map.1 hs
      have := hwz b (List.mem_of_mem_take hb)
      simp only [maxLen] at this
      simpa using this
    · have hd1 := congrArg Prod.fst hd
      dsimp only at hd1
      rw [hd1]
      simp only [Go.Proofs.YtghdpibdidfpbaaDoor.Rows.uptoBulk]
      have := bulk_strs (H := H) (ss.take len)
      simp only [List.length_map]
      omega
theorem bulkR_lenA : ∀ (l : List (DataW H)), l.length ≤ Go.Proofs.YtghdpibdidfpbaaDoor.Rows.uptoBulkAll l
  | [] => by simp [Go.Proofs.YtghdpibdidfpbaaDoor.Rows.uptoBulkAll]
  | d :: r => by
    have ih := bulkR_lenA r
    have h1 : 1 ≤ Go.Proofs.YtghdpibdidfpbaaDoor.Rows.uptoBulk d := by
      cases d with
      | lit l => cases l <;> simp [Go.Proofs.YtghdpibdidfpbaaDoor.Rows.uptoBulk]
      | _ => simp [Go.Proofs.YtghdpibdidfpbaaDoor.Rows.uptoBulk]
    simp only [Go.Proofs.YtghdpibdidfpbaaDoor.Rows.uptoBulkAll, List.length_cons]; omega
theorem trod_flt {P : Program} {t : TypeId} {k : FloatKind} {v : Value} {x : DataW H × List MemPlace} (ht : P.underlying t = some (.float k)) (h : DataW.trod enc P w base sp held fuel t [v] = some x) : ∃ b, v = .float k b := by
  cases fuel with
  | zero => simp [DataW.trod] at h
  | succ n =>
    unfold DataW.trod at h
    rw [ht] at h
    cases v <;> simp at h
    obtain ⟨⟨rfl, hw⟩, _⟩ := h
    exact ⟨_, rfl⟩
/-- what NamesOrder asks -/
structure AskN where
  a : Option Addr
  cap : Nat
  list : List Str
  name : Str
  most : Int
  least : Nat
def askN (x : AskN) (_ : Option Addr) (_ : Nat) : List Value := [.slice x.a x.list.length x.cap, S x.name, I x.most, .float .f64 x.least]
end Go.Vc
/- New, works, short. -/
namespace Go.Vc
open Go Go.Proofs
set_option maxRecDepth 10000

def newGo : List Str → List Str → Option (List Str) × Int
  | acc, [] => (some acc, 0)
  | acc, s :: r => if addE acc s = 0 then newGo (addL acc s) r else (none, addE acc s)
def NewPost (w w' : World) (v : Value) : Option (List Str) × Int → Prop
  | (some l, x) => ∃ p fp m ad cap, v = .tuple #[ptr p, I x] ∧ Tab w' p fp l m ad cap ∧ Kp [] w w' ∧ ∀ b, b ∈ fp → w.heap.size ≤ b
  | (none, x) => v = .tuple #[.pointer none, I x] ∧ Kp [] w w'
variable {w : World} {p : Nat} {fp : List Nat} {l : List Str} {m : Nat} {ad : Option Addr} {cap : Nat}

theorem new_ret {ad : Option Addr} {cap : Nat} (names : List Str) (hr : ReadS w ad (names.map S)) (hs : ∀ s ∈ names, s.length ≤ 9223372036854775807) (hn : names.length ≤ 9223372036854775807) :
    Ret Tryd.prog 5 [.slice ad names.length cap] w (fun v w' => NewPost w w' v (newGo [] names)) := by
  refine enter Tryd.call5 Tryd.func5 rfl rfl rfl rfl ?_
  (repeat first|refine zA ?_|refine zg ?_|refine zo rfl rfl trivial ?_|refine zn ?_)
  refine o_makeMap rfl rfl ?_
  intro bm w1 hbm hu1
  have kp1 : Kp [] w w1 := hu1.kp [] (.inr (by omega))
  have hs1 := hu1.size
  have hM1 := hu1.at_
  have hbl := hu1.lt
  clear hu1
  refine o_build [.slice none 0 0, .map (some bm)] rfl rfl rfl rfl rfl rfl rfl ?_
  refine o_box rfl rfl rfl ?_
  intro bp w2 hbp hu2
  have kp2 : Kp [] w w2 := kp1.trans (hu2.kp [] (.inr (by omega)))
  have hM2 := hu2.keep (by omega) hM1
  have hH2 : Blk w2 bp [.slice none 0 0, .map (some bm)] 54 := hu2.blk
  clear hu2 kp1
  have hT2 : Tab w2 bp [bp, bm] [] bm none 0 := ⟨hH2, ownS_nil _ _ _, hM2, rfl, by simp⟩
  (repeat first|refine zA ?_|refine zB ?_|refine zg ?_|refine zo rfl rfl trivial ?_|refine zn ?_|refine zb ?_)
  refine r_loop (α := Nat × List Str) [4, 12, 13, 14] (fun g => [ptr bp, .slice ad names.length cap, I names.length, I g.1])
    (fun g w' => g.1 ≤ names.length ∧ Kp [] w w' ∧ newGo [] names = newGo g.2 (names.drop g.1) ∧ ∃ fp m ad cap, Tab w' bp fp g.2 m ad cap ∧ ∀ b, b ∈ fp → w.heap.size ≤ b) (fun g => names.length - g.1) (0, []) rfl
    ⟨by omega, kp2, rfl, _, _, _, _, hT2, by simp; omega⟩ ?_
  rintro ⟨k, acc⟩ e w3 ⟨hk, kp3, hgo, fp, m3, ad3, cap3, hT3, hfp⟩
  dsimp only at hk hgo hT3
  (repeat first|refine zA ?_|refine zD ?_|refine zg ?_|refine zo rfl rfl trivial ?_|refine zn ?_)
  refine r_if rfl (fun hlt => ?_) (fun hge => ?_)
  · have hlt : k < names.length := by omega
    have hgo' : newGo acc (names.drop k) = if addE acc names[k] = 0 then newGo (addL acc names[k]) (names.drop (k + 1)) else (none, addE acc names[k]) := by
      rw [List.drop_eq_getElem_cons hlt]; rfl
    obtain ⟨b, off, rfl, _, hcell⟩ := (hr.kp kp3 (by simp)).at_ (by simp; omega)
    · (repeat first|refine zA ?_|refine zC ?_|refine zg ?_|refine zo rfl rfl (by first|exact trivial|(simp only[AllP];omega)) ?_|refine zb ?_|refine zk ?_)
      refine o_loadc rfl (hcell k (S names[k]) (by simp [hlt])) rfl rfl rfl rfl ?_
      (repeat first|refine zA ?_|refine zg ?_|refine zo rfl rfl trivial ?_|refine zn ?_)
      refine o_call (add_ret hT3 names[k] (hs _ (List.getElem_mem hlt))) rfl rfl rfl ?_
      rintro v w4 ⟨rfl, fp', m4, ad4, cap4, hT4, kp4, hfp4⟩
      have kp5 : Kp [] w w4 := kp3.since kp4 hfp
      (repeat first|refine zA ?_|refine zg ?_|refine zo rfl rfl trivial ?_|refine zn ?_)
      refine r_ifn rfl (fun hne => ?_) (fun heq => ?_)
      · (repeat first|refine zA ?_|refine zg ?_|refine zo rfl rfl trivial ?_|refine zn ?_|refine zr ?_)
        refine ⟨_, rfl, ?_⟩
        rw [hgo, hgo', if_neg hne]
        exact ⟨rfl, kp5⟩
      · (repeat first|refine zg ?_|refine zo rfl rfl (by first|exact trivial|(simp only[AllP];omega)) ?_|refine zn ?_|refine zk ?_)
        refine ⟨(k + 1, addL acc names[k]), rfl, ⟨hlt, kp5, ?_, fp', m4, ad4, cap4, hT4, ?_⟩, by show _ - (k + 1) < _ - k; omega⟩
        · rw [hgo, hgo', if_pos heq]
        · intro b hb
          rcases hfp4 b hb with h1 | h1
          · exact hfp b h1
          · exact Nat.le_trans kp3.size h1
  · (repeat first|refine zA ?_|refine zg ?_|refine zo rfl rfl trivial ?_|refine zn ?_|refine ze rfl ?_|refine zr ?_)
    refine ⟨_, rfl, ?_⟩
    have hk' : k = names.length := by omega
    subst hk'
    rw [hgo, List.drop_length]
    exact ⟨bp, fp, m3, ad3, cap3, rfl, hT3, kp3, hfp⟩

theorem works_ret : Ret Tryd.prog 7 [] w (fun v w' => v = .bool true ∧ Kp [] w w') := by
  refine enter Tryd.call7 Tryd.func7 rfl rfl rfl rfl ?_
  (repeat first|refine zA ?_|refine zg ?_|refine zo rfl rfl trivial ?_|refine zn ?_)
  refine o_buildSlice [S [99, 111, 117, 110, 116], S [99, 111, 110, 117, 116]] rfl (by simp [Value.oneCell']) rfl (by decide) (by decide) rfl rfl rfl rfl rfl ?_
  intro b1 w1 hb1 hu1
  have kp1 : Kp [] w w1 := hu1.kp [] (.inr (by omega))
  have hB1 := hu1.blk
  have hr1 : ReadS w1 (some ⟨b1, 0, none⟩) ([[99, 111, 117, 110, 116], [99, 111, 110, 117, 116]].map S) := ReadS.mk fun i v hv => by rw [Nat.zero_add]; exact hB1.cell hv
  refine o_call (new_ret (cap := 2) [[99, 111, 117, 110, 116], [99, 111, 110, 117, 116]] hr1 (by simp) (by simp)) rfl rfl rfl ?_
  intro v w2 hp
  have hgo : newGo [] [[99, 111, 117, 110, 116], [99, 111, 110, 117, 116]] = (some [[99, 111, 117, 110, 116], [99, 111, 110, 117, 116]], 0) := by decide
  rw [hgo] at hp
  obtain ⟨p, fp, m, ad, cap, rfl, hT, kp2, hfp⟩ := hp
  have kp2 := kp1.trans kp2
  (repeat first|refine zA ?_|refine zg ?_|refine zo rfl rfl trivial ?_|refine zn ?_)
  refine o_call (find_ret hT [99, 111, 110, 117, 116]) rfl rfl rfl ?_
  rintro v w3 ⟨rfl, rfl⟩
  have hf : findV [[99, 111, 117, 110, 116], [99, 111, 110, 117, 116]] [99, 111, 110, 117, 116] = .tuple #[I 1, .bool true] := by rfl
  rw [hf]
  (repeat first|refine zA ?_|refine zg ?_|refine zo rfl rfl trivial ?_|refine zn ?_)
  refine o_call (add_ret hT [99, 111, 117, 110, 116] (by decide)) rfl rfl rfl ?_
  rintro v w4 ⟨rfl, fp', m', ad', cap', hT', kp4, _⟩
  have kp4 := kp2.since kp4 (fun b hb => Nat.le_trans kp1.size (hfp b hb))
  have ha : addE [[99, 111, 117, 110, 116], [99, 111, 110, 117, 116]] [99, 111, 117, 110, 116] = 61 := by decide
  rw [ha]
  (repeat first|refine zA ?_|refine zg ?_|refine zo rfl rfl trivial ?_|refine zn ?_)
  refine o_call (num_ret _ _) rfl rfl rfl ?_
  rintro v w5 ⟨rfl, rfl⟩
  (repeat first|refine zo rfl rfl trivial ?_|refine zT rfl rfl rfl ?_)
  refine o_is true _ _ rfl rfl rfl (by decide) ?_
  refine o_is true _ _ rfl rfl rfl (by decide) ?_
  refine o_call (num_ret _ _) rfl rfl rfl ?_
  rintro v w6 ⟨rfl, rfl⟩
  (repeat first|refine zo rfl rfl trivial ?_|refine zT rfl rfl rfl ?_)
  refine o_is true _ _ rfl rfl rfl (by decide) ?_
  refine o_call (distance_ret _ _ _) rfl rfl rfl ?_
  rintro v w7 ⟨rfl, kp7⟩
  have hd : dist [107, 105, 116, 116, 101, 110] [115, 105, 116, 116, 105, 110, 103] = 3 := by decide
  rw [hd]
  (repeat first|refine zo rfl rfl trivial ?_|refine zT rfl rfl rfl ?_)
  refine o_is true _ _ rfl rfl rfl (by decide) ?_
  refine o_call (check_ret _ (by decide) _) rfl rfl rfl ?_
  rintro v w8 ⟨rfl, rfl⟩
  have hc : checkI [49, 97] = 60 := by decide
  rw [hc]
  refine o_call (num_ret _ _) rfl rfl rfl ?_
  rintro v w9 ⟨rfl, rfl⟩
  (repeat first|refine zo rfl rfl trivial ?_|refine zn ?_|refine zr ?_)
  exact ⟨_, rfl, rfl, kp4.trans kp7⟩
end Go.Vc
