/- New, works, short. -/
import Derived.Test.YtghdpibdidfpbaaQClNOrder7
namespace Go.Vc
open Go Go.Proofs
set_option maxRecDepth 10000

def newGo : List Str → List Str → Option (List Str) × Int
  | acc, [] => (some acc, 0)
  | acc, s :: r => if addE acc s = 0 then newGo (addL acc s) r else (none, addE acc s)
def NewPost (w w' : World) (v : Value) : Option (List Str) × Int → Prop
  | (some l, x) => ∃ p fp m ad cap, v = .tuple #[ptr p, I x] ∧ Tab w' p fp l m ad cap ∧ Kp [] w w' ∧ ∀ b, b ∈ fp → w.heap.size ≤ b
  | (none, x) => v = .tuple #[.pointer none, I x] ∧ Kp [] w w'
variable {w : World} {p : Nat} {fp : List Nat} {l : List Str} {m : Nat} {ad : Option Addr} {cap : Nat}

theorem new_ret {ad : Option Addr} {cap : Nat} (names : List Str) (hr : ReadS w ad (names.map S)) (hs : ∀ s ∈ names, s.length ≤ 9223372036854775807) (hn : names.length ≤ 9223372036854775807) :
    Ret Try.prog 17 [.slice ad names.length cap] w (fun v w' => NewPost w w' v (newGo [] names)) := by
  refine enter Try.call17 Try.func17 rfl rfl rfl rfl ?_
  (repeat first|refine zA ?_|refine zg ?_|refine zo rfl rfl trivial ?_|refine zn ?_)
  refine o_makeMap rfl rfl ?_
  intro bm w1 hbm hu1
  have kp1 : Kp [] w w1 := hu1.kp [] (.inr (by omega))
  have hs1 := hu1.size
  have hM1 := hu1.at_
  have hbl := hu1.lt
  clear hu1
  refine o_build [.slice none 0 0, .map (some bm)] rfl rfl rfl rfl rfl rfl rfl ?_
  refine o_box rfl rfl rfl ?_
  intro bp w2 hbp hu2
  have kp2 : Kp [] w w2 := kp1.trans (hu2.kp [] (.inr (by omega)))
  have hM2 := hu2.keep (by omega) hM1
  have hH2 : Blk w2 bp [.slice none 0 0, .map (some bm)] 57 := hu2.blk
  clear hu2 kp1
  have hT2 : Tab w2 bp [bp, bm] [] bm none 0 := ⟨hH2, ownS_nil _ _ _, hM2, rfl, by simp⟩
  (repeat first|refine zA ?_|refine zB ?_|refine zg ?_|refine zo rfl rfl trivial ?_|refine zn ?_|refine zb ?_)
  refine r_loop (α := Nat × List Str) [4, 12, 13, 14] (fun g => [ptr bp, .slice ad names.length cap, I names.length, I g.1])
    (fun g w' => g.1 ≤ names.length ∧ Kp [] w w' ∧ newGo [] names = newGo g.2 (names.drop g.1) ∧ ∃ fp m ad cap, Tab w' bp fp g.2 m ad cap ∧ ∀ b, b ∈ fp → w.heap.size ≤ b) (fun g => names.length - g.1) (0, []) rfl
    ⟨by omega, kp2, rfl, _, _, _, _, hT2, by simp; omega⟩ ?_
  rintro ⟨k, acc⟩ e w3 ⟨hk, kp3, hgo, fp, m3, ad3, cap3, hT3, hfp⟩
  dsimp only at hk hgo hT3
  (repeat first|refine zA ?_|refine zD ?_|refine zg ?_|refine zo rfl rfl trivial ?_|refine zn ?_)
  refine r_if rfl (fun hlt => ?_) (fun hge => ?_)
  · have hlt : k < names.length := by omega
    have hgo' : newGo acc (names.drop k) = if addE acc names[k] = 0 then newGo (addL acc names[k]) (names.drop (k + 1)) else (none, addE acc names[k]) := by
      rw [List.drop_eq_getElem_cons hlt]; rfl
    obtain ⟨b, off, rfl, _, hcell⟩ := (hr.kp kp3 (by simp)).at_ (by simp; omega)
    · (repeat first|refine zA ?_|refine zC ?_|refine zg ?_|refine zo rfl rfl (by first|exact trivial|(simp only[AllP];omega)) ?_|refine zb ?_|refine zk ?_)
      refine o_loadc rfl (hcell k (S names[k]) (by simp [hlt])) rfl rfl rfl rfl ?_
      (repeat first|refine zA ?_|refine zg ?_|refine zo rfl rfl trivial ?_|refine zn ?_)
      refine o_call (add_ret hT3 names[k] (hs _ (List.getElem_mem hlt))) rfl rfl rfl ?_
      rintro v w4 ⟨rfl, fp', m4, ad4, cap4, hT4, kp4, hfp4⟩
      have kp5 : Kp [] w w4 := kp3.since kp4 hfp
      (repeat first|refine zA ?_|refine zg ?_|refine zo rfl rfl trivial ?_|refine zn ?_)
      refine r_ifn rfl (fun hne => ?_) (fun heq => ?_)
      · (repeat first|refine zA ?_|refine zg ?_|refine zo rfl rfl trivial ?_|refine zn ?_|refine zr ?_)
        refine ⟨_, rfl, ?_⟩
        rw [hgo, hgo', if_neg hne]
        exact ⟨rfl, kp5⟩
      · (repeat first|refine zg ?_|refine zo rfl rfl (by first|exact trivial|(simp only[AllP];omega)) ?_|refine zn ?_|refine zk ?_)
        refine ⟨(k + 1, addL acc names[k]), rfl, ⟨hlt, kp5, ?_, fp', m4, ad4, cap4, hT4, ?_⟩, by show _ - (k + 1) < _ - k; omega⟩
        · rw [hgo, hgo', if_pos heq]
        · intro b hb
          rcases hfp4 b hb with h1 | h1
          · exact hfp b h1
          · exact Nat.le_trans kp3.size h1
  · (repeat first|refine zA ?_|refine zg ?_|refine zo rfl rfl trivial ?_|refine zn ?_|refine ze rfl ?_|refine zr ?_)
    refine ⟨_, rfl, ?_⟩
    have hk' : k = names.length := by omega
    subst hk'
    rw [hgo, List.drop_length]
    exact ⟨bp, fp, m3, ad3, cap3, rfl, hT3, kp3, hfp⟩

theorem works_ret : Ret Try.prog 10 [] w (fun v w' => v = .bool true ∧ Kp [] w w') := by
  refine enter Try.call10 Try.func10 rfl rfl rfl rfl ?_
  (repeat first|refine zA ?_|refine zg ?_|refine zo rfl rfl trivial ?_|refine zn ?_)
  refine o_buildSlice [S [99, 111, 117, 110, 116], S [99, 111, 110, 117, 116]] rfl (by simp [Value.oneCell']) rfl (by decide) (by decide) rfl rfl rfl rfl rfl ?_
  intro b1 w1 hb1 hu1
  have kp1 : Kp [] w w1 := hu1.kp [] (.inr (by omega))
  have hB1 := hu1.blk
  have hr1 : ReadS w1 (some ⟨b1, 0, none⟩) ([[99, 111, 117, 110, 116], [99, 111, 110, 117, 116]].map S) := ReadS.mk fun i v hv => by rw [Nat.zero_add]; exact hB1.cell hv
  refine o_call (new_ret (cap := 2) [[99, 111, 117, 110, 116], [99, 111, 110, 117, 116]] hr1 (by simp) (by simp)) rfl rfl rfl ?_
  intro v w2 hp
  have hgo : newGo [] [[99, 111, 117, 110, 116], [99, 111, 110, 117, 116]] = (some [[99, 111, 117, 110, 116], [99, 111, 110, 117, 116]], 0) := by decide
  rw [hgo] at hp
  obtain ⟨p, fp, m, ad, cap, rfl, hT, kp2, hfp⟩ := hp
  have kp2 := kp1.trans kp2
  (repeat first|refine zA ?_|refine zg ?_|refine zo rfl rfl trivial ?_|refine zn ?_)
  refine o_call (find_ret hT [99, 111, 110, 117, 116]) rfl rfl rfl ?_
  rintro v w3 ⟨rfl, rfl⟩
  have hf : findV [[99, 111, 117, 110, 116], [99, 111, 110, 117, 116]] [99, 111, 110, 117, 116] = .tuple #[I 1, .bool true] := by rfl
  rw [hf]
  (repeat first|refine zA ?_|refine zg ?_|refine zo rfl rfl trivial ?_|refine zn ?_)
  refine o_call (add_ret hT [99, 111, 117, 110, 116] (by decide)) rfl rfl rfl ?_
  rintro v w4 ⟨rfl, fp', m', ad', cap', hT', kp4, _⟩
  have kp4 := kp2.since kp4 (fun b hb => Nat.le_trans kp1.size (hfp b hb))
  have ha : addE [[99, 111, 117, 110, 116], [99, 111, 110, 117, 116]] [99, 111, 117, 110, 116] = 61 := by decide
  rw [ha]
  (repeat first|refine zA ?_|refine zg ?_|refine zo rfl rfl trivial ?_|refine zn ?_)
  refine o_call (num_ret _ _) rfl rfl rfl ?_
  rintro v w5 ⟨rfl, rfl⟩
  (repeat first|refine zo rfl rfl trivial ?_|refine zT rfl rfl rfl ?_)
  refine o_is true _ _ rfl rfl rfl (by decide) ?_
  refine o_is true _ _ rfl rfl rfl (by decide) ?_
  refine o_call (num_ret _ _) rfl rfl rfl ?_
  rintro v w6 ⟨rfl, rfl⟩
  (repeat first|refine zo rfl rfl trivial ?_|refine zT rfl rfl rfl ?_)
  refine o_is true _ _ rfl rfl rfl (by decide) ?_
  refine o_call (distance_ret _ _ _) rfl rfl rfl ?_
  rintro v w7 ⟨rfl, kp7⟩
  have hd : dist [107, 105, 116, 116, 101, 110] [115, 105, 116, 116, 105, 110, 103] = 3 := by decide
  rw [hd]
  (repeat first|refine zo rfl rfl trivial ?_|refine zT rfl rfl rfl ?_)
  refine o_is true _ _ rfl rfl rfl (by decide) ?_
  refine o_call (check_ret _ (by decide) _) rfl rfl rfl ?_
  rintro v w8 ⟨rfl, rfl⟩
  have hc : checkI [49, 97] = 60 := by decide
  rw [hc]
  refine o_call (num_ret _ _) rfl rfl rfl ?_
  rintro v w9 ⟨rfl, rfl⟩
  (repeat first|refine zo rfl rfl trivial ?_|refine zn ?_|refine zr ?_)
  exact ⟨_, rfl, rfl, kp4.trans kp7⟩
theorem short_ret (s : Str) : Ret Try.prog 8 [S s] w (fun v w' => v = S (s.take 60) ∧ w' = w) := by
  refine enter Try.call8 Try.func8 rfl rfl rfl rfl ?_
  (repeat first|refine zA ?_|refine zB ?_|refine zg ?_|refine zo rfl rfl trivial ?_|refine zn ?_)
  refine r_if rfl (fun h => ?_) (fun h => ?_)
  · (repeat first|refine zA ?_|refine zg ?_|refine zo rfl rfl (by first|exact trivial|(simp only[AllP];omega)) ?_|refine zn ?_|refine zr ?_)
    exact ⟨_, rfl, rfl, rfl⟩
  · (repeat first|refine zA ?_|refine zg ?_|refine zo rfl rfl trivial ?_|refine zn ?_|refine zr ?_|refine zk ?_)
    exact ⟨_, rfl, by rw [List.take_of_length_le]; omega, rfl⟩
end Go.Vc
