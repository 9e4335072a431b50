/- bits: trim, Put, Del, New. -/
import Derived.Test.YtkgjibhbhddckaaDoorQClKPlays5
import Derived.Test.YtkgjibhbhddckaaDoorQClKPlays8
namespace Go.Vc
open Go Go.Proofs
set_option maxRecDepth 10000
variable {w : World}

/-- the set at p has been turned -/
structure SetTo (w : World) (p : Nat) (ad : Option Addr) (w' : World) (ws' : List Nat) (ad' : Option Addr) (cap' : Nat) : Prop where
  at_ : SetAt w' p ws' ad' cap'
  kp : Kp (p :: blkOf ad) w w'
  new : ∀ b, b ∈ blkOf ad' → b ∈ blkOf ad ∨ w.heap.size ≤ b
theorem SetTo.refl {p : Nat} {ws : List Nat} {ad : Option Addr} {cap : Nat} (h : SetAt w p ws ad cap) : SetTo w p ad w ws ad cap := ⟨h, Kp.refl _ _, fun b hb => .inl hb⟩
theorem SetTo.trans {w1 w2 : World} {p : Nat} {ws1 ws2 : List Nat} {ad ad1 ad2 : Option Addr} {cap1 cap2 : Nat} (h : SetTo w p ad w1 ws1 ad1 cap1) (k : SetTo w1 p ad1 w2 ws2 ad2 cap2) : SetTo w p ad w2 ws2 ad2 cap2 :=
  ⟨k.at_, h.kp.after k.kp (fun b hb => by
    rcases List.mem_cons.1 hb with rfl | hb
    · exact .inl (by simp)
    · rcases h.new b hb with h1 | h1
      · exact .inl (by simp [h1])
      · exact .inr h1),
   fun b hb => by
    rcases k.new b hb with h1 | h1
    · exact h.new b h1
    · exact .inr (Nat.le_trans h.kp.size h1)⟩
theorem SetTo.sm {w1 w2 : World} {p : Nat} {ws1 : List Nat} {ad ad1 : Option Addr} {cap1 : Nat} (h : SetTo w p ad w1 ws1 ad1 cap1) (hs : Sm w1 w2) : SetTo w p ad w2 ws1 ad1 cap1 :=
  ⟨h.at_.sm hs, h.kp.after (hs.kp []) (by simp), h.new⟩
theorem WOk.append {a b : List Nat} (ha : WOk a) (hb : WOk b) : WOk (a ++ b) := fun x hx => by
  rcases List.mem_append.1 hx with h | h
  · exact ha x h
  · exact hb x h
theorem WOk.zeros (n : Nat) : WOk (List.replicate n 0) := fun x hx => by simp at hx; rw [hx.2]; decide
theorem WOk.set {a : List Nat} (ha : WOk a) {i x : Nat} (hx : x < 2 ^ 64) : WOk (a.set i x) := fun y hy => by
  rcases List.mem_or_eq_of_mem_set hy with h | h
  · exact ha y h
  · rw [h]; exact hx

/-- a step that a word is laid behind -/
theorem SetAt.blk {p : Nat} {ws : List Nat} {ad : Option Addr} {cap : Nat} (h : SetAt w p ws ad cap) (hne : 0 < ws.length) : ∃ b junk, ad = some ⟨b, 0, none⟩ ∧ Blk w b (ws.map U ++ junk) 151 := by
  cases ad with
  | none => have := h.own.2.1; omega
  | some ad =>
    obtain ⟨b, off, spot⟩ := ad
    obtain ⟨h1, h2, _, _, junk, h5, _⟩ := h.own.2
    cases h1; cases h2
    exact ⟨b, junk, rfl, h5⟩
theorem SetAt.grew {w1 w2 w3 : World} {p : Nat} {ws : List Nat} {ad ad' : Option Addr} {cap cap' : Nat} (h : SetAt w p ws ad cap) (hT : TabW w) {b1 : Nat} {T : TypeId} {l : List Value} (hb1 : b1 = w.heap.size) (hu1 : Upd w b1 (.cells ⟨l⟩ T (0, 0)) w1)
    (ho2 : OwnS w2 151 1 ad' (ws.length + 1) cap' (ws.map U ++ [U 0])) (kp2 : Kp (blkOf ad) w1 w2) (hnew : ∀ b, b ∈ blkOf ad' → b ∈ blkOf ad ∨ w1.heap.size ≤ b)
    (hu3 : Upd w2 p (.cells ⟨[B true, .slice ad' (ws.length + 1) cap']⟩ 150 (0, 0)) w3) (hlen : ws.length + 1 ≤ 16384) : SetTo w p ad w3 (ws ++ [0]) ad' cap' := by
  have hp := h.hdr.lt
  have k1 : Kp [] w w1 := hu1.kp [] (.inr (by omega))
  have hpad' : p ∉ blkOf ad' := fun hb => by
    rcases hnew p hb with h1 | h1
    · exact h.p_ad h1
    · have := hu1.size; omega
  have hlen1 : ws.length + 1 = (ws ++ [0]).length := by simp
  refine ⟨⟨?_, ?_, h.ok.append (WOk.zeros 1), by simp; omega, ?_⟩, ?_, ?_⟩
  · rw [← hlen1]; exact hu3.blk
  · have := ho2.upd hu3 hpad'
    rw [← hlen1, List.map_append]; exact this
  · intro hb
    rcases List.mem_cons.1 hb with hb | hb
    · exact h.far (by rw [hb]; simp)
    · rcases hnew _ hb with h1 | h1
      · exact h.far (by simp [h1])
      · have := hT.lt; have := hu1.size; omega
  · refine ((k1.mono (S' := p :: blkOf ad) (by simp)).after kp2 (fun b hb => .inl (by simp [hb]))).after (hu3.kp [p] (.inl (by simp))) (fun b hb => .inl (by simp at hb; simp [hb]))
  · intro b hb
    rcases hnew b hb with h1 | h1
    · exact .inl h1
    · have := hu1.size; exact .inr (by omega)
/-- a word is stored -/
theorem SetAt.stored {w1 w2 : World} {p : Nat} {ws : List Nat} {b cap i x : Nat} (h : SetAt w p ws (some ⟨b, 0, none⟩) cap) (hs : Sm w w1) (hi : i < ws.length) (hx : x < 2 ^ 64) {junk : List Value} (hb : Blk w b (ws.map U ++ junk) 151)
    (hu : Upd w1 b (.cells ⟨(ws.map U ++ junk).set i (U x)⟩ 151 (0, 0)) w2) : SetTo w p (some ⟨b, 0, none⟩) w2 (ws.set i x) (some ⟨b, 0, none⟩) cap := by
  have hpb : p ≠ b := fun e => h.p_ad (by simp [blkOf, e])
  obtain ⟨h1, h2, h3, h4, junk', h5, h6⟩ := h.own.2
  have hj : junk' = junk := by
    unfold Blk at h5 hb; rw [hb] at h5; simp at h5; exact h5.symm
  subst hj
  have hset : (ws.map U ++ junk').set i (U x) = (ws.set i x).map U ++ junk' := by
    rw [List.set_append_left _ _ (by simpa using hi), List.map_set]
  refine ⟨⟨?_, ⟨by simp, h1, h2, by simpa using h3, h4, junk', ?_, by simpa using h6⟩, h.ok.set hx, by simpa using h.len, h.far⟩, ?_, fun b hb => .inl hb⟩
  · have := hu.kept hpb (hs.blk h.hdr); simpa using this
  · have := hu.blk; rw [hset] at this; exact this
  · exact (hs.kp _).after (hu.kp [b] (.inl (by simp))) (fun c hc => .inl (by simp at hc; simp [hc, blkOf]))

def putW (ws : List Nat) (k : Nat) : List Nat :=
  let l := ws ++ List.replicate (k / 64 + 1 - ws.length) 0
  l.set (k / 64) (l.getD (k / 64) 0 ||| 2 ^ (k % 64))
theorem Put_ret (hT : TabW w) {p : Nat} {ws : List Nat} {ad : Option Addr} {cap : Nat} (h : SetAt w p ws ad cap) {k : Nat} (hk : k < 1048576) :
    Ret Tryd.prog 35 [ptr p, I k] w (fun v w' => v = I 0 ∧ ∃ ad' cap', SetTo w p ad w' (putW ws k) ad' cap') := by
  have hlen := h.len
  refine enter Tryd.call35 Tryd.func35 rfl rfl rfl rfl ?_
  (repeat first|refine zA ?_|refine zB ?_|refine zg ?_|refine zo rfl rfl trivial ?_|refine zn ?_)
  refine o_call (check_ret h k) rfl rfl rfl ?_
  rintro v w' ⟨rfl, rfl⟩
  have hchk : chk k = 0 := by unfold chk; rw [if_pos (by omega)]
  rw [hchk]
  (repeat first|refine zA ?_|refine zC ?_|refine zg ?_|refine zo rfl rfl trivial ?_|refine zn ?_|refine zb ?_|refine zk ?_|refine zf rfl ?_)
  refine r_loop (α := Nat × Option Addr × Nat) [0, 1] (fun _ => [ptr p, I k]) (fun g w1 => SetTo w' p ad w1 (ws ++ List.replicate g.1 0) g.2.1 g.2.2 ∧ g.1 ≤ k / 64 + 1 - ws.length) (fun g => k / 64 + 1 - (ws.length + g.1)) (0, ad, cap) rfl ⟨by simpa using SetTo.refl h, by omega⟩ ?_
  rintro ⟨j, ad1, cap1⟩ e w1 ⟨hto, hj⟩
  dsimp only at hto hj ⊢
  have hT1 : TabW w1 := hT.kp hto.kp h.far
  have hat := hto.at_
  have hl1 : (ws ++ List.replicate j 0).length = ws.length + j := by simp
  (repeat first|refine zA ?_|refine zB ?_|refine zg ?_|refine zo rfl rfl (by first|exact trivial|(simp(discharger:=omega)only[AllP,cA,cB];omega)) ?_)
  refine o_load rfl hat.hdr rfl rfl rfl rfl rfl ?_
  (repeat first|refine zo rfl rfl trivial ?_|refine zn ?_)
  refine r_if rfl (fun hc => ?_) (fun hc => ?_)
  · have hc' : ws.length + j ≤ k / 64 := by rw [hl1, tdiv64] at hc; omega
    (repeat first|refine zg ?_|refine zo rfl rfl trivial ?_|refine zb ?_|refine zk ?_)
    refine o_load rfl hat.hdr rfl rfl rfl rfl rfl ?_
    refine o_buildSlice [U 0] rfl (by simp [Value.oneCell']) rfl (by decide) (by decide) rfl rfl rfl rfl rfl ?_
    intro b1 w2 hb1 hu1
    have hA2 := hat.kp (hu1.kp [] (.inr (by omega))) (by simp)
    refine o_append1 rfl rfl hA2.own hu1.blk rfl rfl rfl rfl (by simp only [maxLen]; omega) (by omega) rfl rfl ?_
    intro ad2 cap2 w3 ho kp3 hnew
    have hH3 := kp3.blk hA2.p_ad hA2.hdr
    (repeat refine zo rfl rfl trivial ?_)
    refine o_store rfl hH3 (by simp) rfl rfl rfl rfl rfl rfl ?_
    intro w4 hu4
    (repeat refine zn ?_)
    have hg := hat.grew hT1 hb1 hu1 ho kp3 hnew hu4 (by omega)
    have e1 : ws ++ List.replicate j 0 ++ [0] = ws ++ List.replicate (j + 1) 0 := by rw [List.append_assoc, ← List.replicate_succ']
    rw [e1] at hg
    exact ⟨(j + 1, ad2, cap2), rfl, ⟨hto.trans hg, by dsimp only; omega⟩, by dsimp only; omega⟩
  · have hc' : k / 64 < ws.length + j := by rw [hl1, tdiv64] at hc; omega
    have hj2 : j = k / 64 + 1 - ws.length := by omega
    (repeat refine ze rfl ?_)
    obtain ⟨b, junk, rfl, hblk⟩ := hat.blk (by omega)
    have hk64 : k / 64 < (ws ++ List.replicate j 0).length := by omega
    have hx : (ws ++ List.replicate j 0).getD (k / 64) 0 < 2 ^ 64 := hat.ok.getD _
    have hcell : ((ws ++ List.replicate j 0).map U ++ junk)[k / 64]? = some (U ((ws ++ List.replicate j 0).getD (k / 64) 0)) := by
      rw [List.getElem?_append_left (by simpa using hk64), List.getElem?_map, List.getD_eq_getElem?_getD, List.getElem?_eq_getElem hk64]; rfl
    refine r_seq ?_
    refine r_lastL follows_mixed rfl (by kernel_rfl) (by kernel_rfl) ?_
    dsimp only [List.dropLast]
    (repeat refine yo rfl rfl trivial ?_)
    refine q_load rfl (fun w hs => (hs.blk hat.hdr).cell rfl) rfl rfl rfl rfl ?_
    (repeat refine yo rfl rfl (by first|exact trivial|(simp(discharger:=omega)only[AllP,cA,cB];omega)) ?_)
    refine q_load (v := U ((ws ++ List.replicate j 0).getD (k / 64) 0)) rfl (fun w hs => ?_) rfl rfl rfl rfl ?_
    · show w.cell? ⟨b, 0 + (Int.tdiv (k : Int) 64).toNat, none⟩ = _
      rw [tdiv64, Int.toNat_natCast, Nat.zero_add]
      exact (hs.blk hblk).cell hcell
    (repeat first|refine yo rfl rfl (by first|exact trivial|(simp(discharger:=omega)only[AllP,cA,cB];omega)) ?_|refine yn ?_)
    intro w2 hs2
    have e1 : ibits .or .u64 (((ws ++ List.replicate j 0).getD (k / 64) 0 : Nat) : Int) (IntKind.u64.wrap (1 * 2 ^ (min (Int.tmod (k : Int) 64).toNat 64))) = (((ws ++ List.replicate j 0).getD (k / 64) 0 ||| 2 ^ (k % 64) : Nat) : Int) := by
      rw [tmod64, Int.toNat_natCast, shl_one (by omega), ibits_or hx (Nat.pow_lt_pow_right (by omega) (by omega))]
    have hx2 : (ws ++ List.replicate j 0).getD (k / 64) 0 ||| 2 ^ (k % 64) < 2 ^ 64 := Nat.or_lt_two_pow hx (Nat.pow_lt_pow_right (by omega) (by omega))
    refine o_store (b := b) (off := k / 64) (v := U ((ws ++ List.replicate j 0).getD (k / 64) 0 ||| 2 ^ (k % 64))) (c := none) ?_ (hs2.blk hblk) (by simp; omega) ?_ rfl rfl rfl rfl rfl ?_
    · show Value.pointer (some ⟨b, 0 + (Int.tdiv (k : Int) 64).toNat, none⟩) = _
      rw [tdiv64, Int.toNat_natCast, Nat.zero_add]
    · exact congrArg (fun z => some (none, Value.int .u64 z)) e1
    intro w3 hu3
    (repeat first|refine zA ?_|refine zg ?_|refine zo rfl rfl trivial ?_|refine zn ?_|refine zr ?_)
    have hfin := hto.trans (hat.stored hs2 hk64 hx2 hblk hu3)
    subst hj2
    exact ⟨_, rfl, rfl, _, _, hfin⟩
theorem Put_bad {p : Nat} {ws : List Nat} {ad : Option Addr} {cap : Nat} (h : SetAt w p ws ad cap) {n : Int} (hn : n < 0 ∨ 1048576 ≤ n) :
    Ret Tryd.prog 35 [ptr p, I n] w (fun v w' => v = I 2 ∧ w' = w) := by
  refine enter Tryd.call35 Tryd.func35 rfl rfl rfl rfl ?_
  (repeat first|refine zA ?_|refine zB ?_|refine zg ?_|refine zo rfl rfl trivial ?_|refine zn ?_)
  refine o_call (check_ret h n) rfl rfl rfl ?_
  rintro v w' ⟨rfl, rfl⟩
  have hchk : chk n = 2 := by unfold chk; rw [if_neg (by omega)]
  rw [hchk]
  (repeat first|refine zA ?_|refine zg ?_|refine zo rfl rfl trivial ?_|refine zn ?_|refine zr ?_|refine zt rfl ?_)
  exact ⟨_, rfl, rfl, rfl⟩
/-! ### trim -/
def trim : List Nat → List Nat
  | [] => []
  | x :: r => match trim r with
    | [] => if x = 0 then [] else [x]
    | y :: s => x :: y :: s
theorem trim_len (ws : List Nat) : (trim ws).length ≤ ws.length := by
  induction ws with
  | nil => simp [trim]
  | cons x r ih =>
    unfold trim
    split
    · split <;> simp
    · rename_i y s hh; rw [hh] at ih; simp at ih ⊢; exact ih
theorem trim_take (ws : List Nat) : trim ws = ws.take (trim ws).length := by
  induction ws with
  | nil => simp [trim]
  | cons x r ih =>
    have hh : trim (x :: r) = match trim r with | [] => if x = 0 then [] else [x] | y :: s => x :: y :: s := rfl
    cases ht : trim r with
    | nil =>
      rw [ht] at hh
      dsimp only at hh
      rw [hh]; split <;> simp
    | cons y s =>
      rw [ht] at hh
      dsimp only at hh
      rw [hh]
      rw [ht] at ih
      simp only [List.length_cons, List.take_succ_cons]
      simp only [List.length_cons] at ih
      rw [← ih]
theorem trim_snoc0 (l : List Nat) : trim (l ++ [0]) = trim l := by
  induction l with
  | nil => rfl
  | cons x r ih => simp only [List.cons_append, trim, ih]
theorem trim_snoc {l : List Nat} {x : Nat} (hx : x ≠ 0) : trim (l ++ [x]) = l ++ [x] := by
  induction l with
  | nil => simp [trim, hx]
  | cons y r ih =>
    simp only [List.cons_append, trim, ih]
    cases r <;> simp
/-- the header is turned to a shorter one -/
theorem SetAt.short {w1 w2 : World} {p : Nat} {ws : List Nat} {ad : Option Addr} {cap g : Nat} (h : SetAt w p ws ad cap) (hs : Sm w w1) (hg : g ≤ ws.length)
    (hu : Upd w1 p (.cells ⟨[B true, .slice ad g cap]⟩ 150 (0, 0)) w2) : SetTo w p ad w2 (ws.take g) ad cap := by
  have hl : g = (ws.take g).length := by simp; omega
  refine ⟨⟨?_, ?_, fun x hx => h.ok x (List.mem_of_mem_take hx), by have := h.len; simp; omega, h.far⟩, (hs.kp _).after (hu.kp [p] (.inl (by simp))) (fun b hb => .inl (by simp at hb; simp [hb])), fun b hb => .inl hb⟩
  · have := hu.blk; rw [hl] at this; rw [← hl]; rw [← hl] at this; exact this
  · have := ((h.own.sm hs).take hg).upd hu h.p_ad
    rw [← List.map_take] at this
    rw [← hl]; exact this
theorem trim_ret {p : Nat} {ws : List Nat} {ad : Option Addr} {cap : Nat} (h : SetAt w p ws ad cap) :
    Ret Tryd.prog 67 [ptr p] w (fun v w' => v = .tuple #[] ∧ SetTo w p ad w' (trim ws) ad cap) := by
  have hlen := h.len
  refine enter Tryd.call67 Tryd.func67 rfl rfl rfl rfl ?_
  (repeat first|refine zA ?_|refine zg ?_|refine zo rfl rfl trivial ?_)
  refine o_load rfl h.hdr rfl rfl rfl rfl rfl ?_
  (repeat first|refine zC ?_|refine zo rfl rfl trivial ?_|refine zn ?_|refine zb ?_)
  refine r_loop (α := Nat) [0, 2] (fun g => [ptr p, I g]) (fun g w1 => Sm w w1 ∧ g ≤ ws.length ∧ trim (ws.take g) = trim ws) (fun g => g) ws.length rfl ⟨Sm.refl _, Nat.le_refl _, by simp⟩ ?_
  rintro g e w1 ⟨hs, hg, htr⟩
  have h1 := h.sm hs
  (repeat first|refine zA ?_|refine zB ?_|refine zg ?_|refine zo rfl rfl trivial ?_)
  have hcap := h.own.le_cap
  refine o_bool [0, 2] [ptr p, I g] 20 (decide (0 < g ∧ ws.getD (g - 1) 0 = 0)) (fun w => w = w1) ?_ ?_
  · refine o_split 2 true rfl rfl rfl (fun hb => ?_) (fun hb => ?_)
    · have hb' : 0 < g := by simpa using hb
      (repeat refine zo rfl rfl trivial ?_)
      refine o_load rfl h1.hdr rfl rfl rfl rfl rfl ?_
      obtain ⟨b, junk, rfl, hblk⟩ := h1.blk (by omega)
      (repeat refine zo rfl rfl (by first|exact trivial|(simp only[AllP];omega)) ?_)
      refine o_loadc (v := U (ws.getD (g - 1) 0)) rfl ?_ rfl rfl rfl rfl ?_
      · show w1.cell? ⟨b, 0 + ((g : Int) - 1).toNat, none⟩ = _
        have e1 : 0 + ((g : Int) - 1).toNat = g - 1 := by omega
        rw [e1]
        refine hblk.cell ?_
        have hlt : g - 1 < ws.length := by omega
        rw [List.getElem?_append_left (by simpa using hlt), List.getElem?_map, List.getD_eq_getElem?_getD, List.getElem?_eq_getElem hlt]; rfl
      (repeat first|refine zo rfl rfl trivial ?_|refine zn ?_)
      refine ⟨rfl, ⟨_, rfl, ?_⟩, rfl⟩
      simp only [hb', true_and, decide_eq_decide]
      omega
    · have hb' : ¬ 0 < g := by simpa using hb
      (repeat first|refine zo rfl rfl trivial ?_|refine zn ?_)
      exact ⟨rfl, ⟨_, rfl, by simp [hb']⟩, rfl⟩
  rintro e w2 rfl
  refine r_if rfl (fun hc => ?_) (fun hc => ?_)
  · have e1 : ws.take g = ws.take (g - 1) ++ [0] := by
      have hlt : g - 1 < ws.length := by omega
      have h2 : ws[g - 1]? = some 0 := by rw [List.getElem?_eq_getElem hlt]; have := hc.2; rw [List.getD_eq_getElem?_getD, List.getElem?_eq_getElem hlt] at this; simpa using this
      have h3 : g = g - 1 + 1 := by omega
      rw [h3, List.take_add_one, h2]; rfl
    (repeat first|refine zg ?_|refine zo rfl rfl (by first|exact trivial|(simp only[AllP];omega)) ?_|refine zn ?_|refine zb ?_|refine zk ?_)
    refine ⟨g - 1, ?_, ⟨hs, by omega, by rw [← htr, e1, trim_snoc0]⟩, by omega⟩
    have : ((g : Int) - 1) = ((g - 1 : Nat) : Int) := by omega
    exact congrArg (fun z => [ptr p, I z]) this
  · have e1 : trim ws = ws.take g := by
      rw [← htr]
      by_cases h0 : 0 < g
      · have hlt : g - 1 < ws.length := by omega
        have h3 : g = g - 1 + 1 := by omega
        have h2 : ws.take g = ws.take (g - 1) ++ [ws.getD (g - 1) 0] := by
          conv => lhs; rw [h3, List.take_add_one, List.getElem?_eq_getElem hlt]
          rw [List.getD_eq_getElem?_getD, List.getElem?_eq_getElem hlt]; rfl
        rw [h2]; exact trim_snoc (fun hz => hc ⟨h0, hz⟩)
      · have : g = 0 := by omega
        subst this; rfl
    (repeat first|refine zg ?_|refine zo rfl rfl trivial ?_|refine ze rfl ?_)
    refine o_load rfl h1.hdr rfl rfl rfl rfl rfl ?_
    (repeat refine zo rfl rfl (by first|exact trivial|(simp only[AllP];omega)) ?_)
    refine o_store rfl h1.hdr (by simp) rfl rfl rfl rfl rfl rfl ?_
    intro w3 hu
    (repeat refine zn ?_)
    refine ⟨_, rfl, rfl, ?_⟩
    rw [e1]
    exact h.short hs hg hu
end Go.Vc
/- bits: Del, New. -/
namespace Go.Vc
open Go Go.Proofs
set_option maxRecDepth 10000
variable {w : World}

def delW (ws : List Nat) (k : Nat) : List Nat := if k / 64 < ws.length then trim (ws.set (k / 64) (andn (ws.getD (k / 64) 0) (2 ^ (k % 64)))) else ws
theorem Del_ret {p : Nat} {ws : List Nat} {ad : Option Addr} {cap : Nat} (h : SetAt w p ws ad cap) {k : Nat} (hk : k < 1048576) :
    Ret Tryd.prog 36 [ptr p, I k] w (fun v w' => v = I 0 ∧ SetTo w p ad w' (delW ws k) ad cap) := by
  have hlen := h.len
  refine enter Tryd.call36 Tryd.func36 rfl rfl rfl rfl ?_
  (repeat first|refine zA ?_|refine zB ?_|refine zg ?_|refine zo rfl rfl trivial ?_|refine zn ?_)
  refine o_call (check_ret h k) rfl rfl rfl ?_
  rintro v w' ⟨rfl, rfl⟩
  have hchk : chk k = 0 := by unfold chk; rw [if_pos (by omega)]
  rw [hchk]
  (repeat first|refine zA ?_|refine zB ?_|refine zg ?_|refine zo rfl rfl (by first|exact trivial|(simp(discharger:=omega)only[AllP,cA,cB];omega)) ?_|refine zn ?_|refine zk ?_|refine zf rfl ?_)
  refine o_load rfl h.hdr rfl rfl rfl rfl rfl ?_
  (repeat first|refine zo rfl rfl trivial ?_|refine zn ?_)
  refine r_if rfl (fun hc => ?_) (fun hc => ?_)
  · have hk64 : k / 64 < ws.length := by rw [tdiv64] at hc; omega
    obtain ⟨b, junk, rfl, hblk⟩ := h.blk (by omega)
    have hx : ws.getD (k / 64) 0 < 2 ^ 64 := h.ok.getD _
    have hcell : (ws.map U ++ junk)[k / 64]? = some (U (ws.getD (k / 64) 0)) := by
      rw [List.getElem?_append_left (by simpa using hk64), List.getElem?_map, List.getD_eq_getElem?_getD, List.getElem?_eq_getElem hk64]; rfl
    refine r_seq ?_
    refine r_lastL follows_mixed rfl (by kernel_rfl) (by kernel_rfl) ?_
    dsimp only [List.dropLast]
    (repeat refine yo rfl rfl trivial ?_)
    refine q_load rfl (fun w hs => (hs.blk h.hdr).cell rfl) rfl rfl rfl rfl ?_
    (repeat refine yo rfl rfl (by first|exact trivial|(simp(discharger:=omega)only[AllP,cA,cB];omega)) ?_)
    refine q_load (v := U (ws.getD (k / 64) 0)) rfl (fun w hs => ?_) rfl rfl rfl rfl ?_
    · show w.cell? ⟨b, 0 + (Int.tdiv (k : Int) 64).toNat, none⟩ = _
      rw [tdiv64, Int.toNat_natCast, Nat.zero_add]
      exact (hs.blk hblk).cell hcell
    (repeat first|refine yo rfl rfl (by first|exact trivial|(simp(discharger:=omega)only[AllP,cA,cB];omega)) ?_|refine yn ?_)
    intro w2 hs2
    have e1 : ibits .andNot .u64 ((ws.getD (k / 64) 0 : Nat) : Int) (IntKind.u64.wrap (1 * 2 ^ (min (Int.tmod (k : Int) 64).toNat 64))) = ((andn (ws.getD (k / 64) 0) (2 ^ (k % 64)) : Nat) : Int) := by
      rw [tmod64, Int.toNat_natCast, shl_one (by omega), ibits_andn hx (Nat.pow_lt_pow_right (by omega) (by omega))]
    refine o_store (b := b) (off := k / 64) (v := U (andn (ws.getD (k / 64) 0) (2 ^ (k % 64)))) (c := none) ?_ (hs2.blk hblk) (by simp; omega) ?_ rfl rfl rfl rfl rfl ?_
    · show Value.pointer (some ⟨b, 0 + (Int.tdiv (k : Int) 64).toNat, none⟩) = _
      rw [tdiv64, Int.toNat_natCast, Nat.zero_add]
    · exact congrArg (fun z => some (none, Value.int .u64 z)) e1
    intro w3 hu3
    have hto := h.stored hs2 hk64 (andn_lt hx) hblk hu3
    (repeat first|refine zg ?_|refine zo rfl rfl trivial ?_|refine zn ?_)
    refine o_call (trim_ret hto.at_) rfl rfl rfl ?_
    rintro v w4 ⟨rfl, hto4⟩
    (repeat first|refine zA ?_|refine zg ?_|refine zo rfl rfl trivial ?_|refine zn ?_|refine zr ?_)
    refine ⟨_, rfl, rfl, ?_⟩
    unfold delW
    rw [if_pos hk64]
    exact hto.trans hto4
  · have hk64 : ¬ k / 64 < ws.length := by rw [tdiv64] at hc; omega
    (repeat first|refine zA ?_|refine zg ?_|refine zo rfl rfl trivial ?_|refine zn ?_|refine zr ?_|refine zk ?_)
    refine ⟨_, rfl, rfl, ?_⟩
    unfold delW
    rw [if_neg hk64]
    exact SetTo.refl h
/-- a set that has been made: its blocks are new -/
structure NewSet (w : World) (p : Nat) (w' : World) (ws : List Nat) (ad : Option Addr) (cap : Nat) : Prop where
  at_ : SetAt w' p ws ad cap
  kp : Kp [] w w'
  new : ∀ b, b ∈ p :: blkOf ad → w.heap.size ≤ b
theorem NewSet.to {w1 w2 : World} {p : Nat} {ws1 ws2 : List Nat} {ad1 ad2 : Option Addr} {cap1 cap2 : Nat} (h : NewSet w p w1 ws1 ad1 cap1) (k : SetTo w1 p ad1 w2 ws2 ad2 cap2) : NewSet w p w2 ws2 ad2 cap2 :=
  ⟨k.at_, h.kp.after k.kp (fun b hb => .inr (h.new b hb)), fun b hb => by
    rcases List.mem_cons.1 hb with rfl | hb
    · exact h.new _ (by simp)
    · rcases k.new b hb with h1 | h1
      · exact h.new b (by simp [h1])
      · exact Nat.le_trans h.kp.size h1⟩
/-- what New makes of numbers -/
def newW (l : List Int) (ws : List Nat) : List Nat := l.foldl (fun ws n => putW ws n.toNat) ws
def allOk (l : List Int) : Bool := l.all fun n => decide (0 ≤ n) && decide (n < 1048576)
theorem New_ret (hT : TabW w) {ad : Option Addr} {l : List Int} {cap : Nat} (hr : ReadS w ad (l.map I)) (hl : l.length ≤ 9223372036854775807) :
    Ret Tryd.prog 65 [.slice ad l.length cap] w (fun v w' => (allOk l = true ∧ ∃ p ad' cap', v = .tuple #[ptr p, I 0] ∧ NewSet w p w' (newW l []) ad' cap') ∨ (allOk l = false ∧ v = .tuple #[.pointer none, I 2] ∧ Kp [] w w')) := by
  refine enter Tryd.call65 Tryd.func65 rfl rfl rfl rfl ?_
  (repeat first|refine zA ?_|refine zg ?_|refine zo rfl rfl trivial ?_|refine zn ?_)
  refine o_build [B true, .slice none 0 0] rfl rfl rfl rfl rfl rfl rfl ?_
  refine o_box rfl rfl rfl ?_
  intro p w1 hp hu1
  have hn1 : NewSet w p w1 [] none 0 := ⟨⟨hu1.blk, ownS_nil _ _ _, by intro x hx; simp at hx, by simp, by simp [blkOf]; have := hT.lt; omega⟩, hu1.kp [] (.inr (by omega)), by simp [blkOf]; omega⟩
  (repeat first|refine zA ?_|refine zB ?_|refine zg ?_|refine zo rfl rfl trivial ?_|refine zn ?_|refine zb ?_)
  refine r_loop (α := Nat × Option Addr × Nat) [4, 9, 10, 11] (fun g => [ptr p, .slice ad l.length cap, I l.length, I g.1]) (fun g w2 => NewSet w p w2 (newW (l.take g.1) []) g.2.1 g.2.2 ∧ g.1 ≤ l.length ∧ allOk (l.take g.1) = true) (fun g => l.length - g.1) (0, none, 0) rfl ⟨by simpa [newW] using hn1, by omega, by simp [allOk]⟩ ?_
  rintro ⟨j, ad1, cap1⟩ e w2 ⟨hns, hj, hok⟩
  dsimp only at hns hj hok ⊢
  (repeat first|refine zA ?_|refine zD ?_|refine zg ?_|refine zo rfl rfl trivial ?_|refine zn ?_)
  refine r_if rfl (fun hc => ?_) (fun hc => ?_)
  · have hlt : j < l.length := by omega
    obtain ⟨b, off, rfl, hb, hcell⟩ := hr.at_ (by simp; omega)
    have hcj : w2.cell? ⟨b, off + j, none⟩ = some (I l[j]) := by
      rw [← hcell j (I l[j]) (by simp [hlt])]
      exact World.cell?_of_block (hns.kp.at_ b hb (by simp))
    have htk : l.take (j + 1) = l.take j ++ [l[j]] := by rw [List.take_add_one, List.getElem?_eq_getElem hlt]; rfl
    (repeat first|refine zA ?_|refine zC ?_|refine zg ?_|refine zo rfl rfl (by first|exact trivial|(simp only[AllP];omega)) ?_|refine zb ?_|refine zk ?_)
    refine o_loadc rfl hcj rfl rfl rfl rfl ?_
    (repeat first|refine zA ?_|refine zg ?_|refine zo rfl rfl trivial ?_|refine zn ?_)
    by_cases hn : 0 ≤ l[j] ∧ l[j] < 1048576
    · obtain ⟨k, hk⟩ : ∃ k : Nat, l[j] = (k : Int) := ⟨l[j].toNat, by omega⟩
      rw [hk] at hn ⊢
      refine o_call (Put_ret (hT.kp hns.kp (by simp)) hns.at_ (k := k) (by omega)) rfl rfl rfl ?_
      rintro v w3 ⟨rfl, ad3, cap3, hto⟩
      (repeat first|refine zg ?_|refine zo rfl rfl (by first|exact trivial|(simp only[AllP];omega)) ?_|refine zn ?_|refine zk ?_|refine zf rfl ?_)
      refine ⟨(j + 1, ad3, cap3), rfl, ⟨?_, by dsimp only; omega, ?_⟩, by dsimp only; omega⟩
      · dsimp only
        rw [htk, newW, List.foldl_append]
        show NewSet w p w3 (putW (newW (l.take j) []) (l[j]).toNat) ad3 cap3
        rw [hk]
        exact hns.to hto
      · dsimp only
        rw [htk]
        unfold allOk at hok ⊢
        rw [List.all_append, hok, hk]
        simp; omega
    · refine o_call (Put_bad hns.at_ (n := l[j]) (by omega)) rfl rfl rfl ?_
      rintro v w3 ⟨rfl, rfl⟩
      (repeat first|refine zA ?_|refine zg ?_|refine zo rfl rfl trivial ?_|refine zn ?_|refine zr ?_|refine zt rfl ?_)
      refine ⟨_, rfl, .inr ⟨?_, rfl, hns.kp⟩⟩
      cases hall : allOk l with
      | false => rfl
      | true =>
        have := List.all_eq_true.1 hall l[j] (List.getElem_mem hlt)
        simp at this
        exact absurd this hn
  · have hj2 : j = l.length := by omega
    subst hj2
    rw [List.take_length] at hns hok
    (repeat first|refine zA ?_|refine zg ?_|refine zo rfl rfl trivial ?_|refine zn ?_|refine ze rfl ?_|refine zr ?_)
    exact ⟨_, rfl, .inl ⟨hok, p, ad1, cap1, rfl, hns⟩⟩

/-! ### Numbers in and out: the words' laws -/
theorem getD_zeros (ws : List Nat) (n i : Nat) : (ws ++ List.replicate n 0).getD i 0 = ws.getD i 0 := by
  rw [List.getD_eq_getElem?_getD, List.getD_eq_getElem?_getD]
  by_cases h : i < ws.length
  · rw [List.getElem?_append_left h]
  · rw [List.getElem?_append_right (by omega), List.getElem?_replicate, List.getElem?_eq_none (l := ws) (by omega)]
    split <;> rfl
theorem getD_set (ws : List Nat) (i j x : Nat) (hi : i < ws.length) : (ws.set i x).getD j 0 = if i = j then x else ws.getD j 0 := by
  rw [List.getD_eq_getElem?_getD, List.getD_eq_getElem?_getD, List.getElem?_set]
  by_cases h : i = j
  · subst h; simp [hi]
  · simp [h]
theorem bit_putW (ws : List Nat) (k j : Nat) : bit (putW ws k) j = (bit ws j || decide (k = j)) := by
  unfold putW bit
  dsimp only
  rw [getD_set _ _ _ _ (by simp; omega), getD_zeros, getD_zeros]
  by_cases h : k / 64 = j / 64
  · rw [if_pos h, Nat.testBit_or, Nat.testBit_two_pow, h]
    congr 1
    rw [decide_eq_decide]; omega
  · rw [if_neg h]
    have : k ≠ j := by rintro rfl; exact h rfl
    simp [this]
theorem getD_trim (ws : List Nat) (i : Nat) : (trim ws).getD i 0 = ws.getD i 0 := by
  induction ws generalizing i with
  | nil => rfl
  | cons x r ih =>
    have hh : trim (x :: r) = match trim r with | [] => if x = 0 then [] else [x] | y :: s => x :: y :: s := rfl
    cases ht : trim r with
    | nil =>
      rw [ht] at hh
      dsimp only at hh
      rw [hh]
      have ih' : ∀ i, r.getD i 0 = 0 := fun i => by rw [← ih i, ht]; rfl
      cases i with
      | zero => split <;> simp_all
      | succ i =>
        rw [List.getD_cons_succ, ih' i]
        split <;> rfl
    | cons y s =>
      rw [ht] at hh
      dsimp only at hh
      rw [hh]
      cases i with
      | zero => rfl
      | succ i => rw [List.getD_cons_succ, List.getD_cons_succ, ← ih i, ht]
theorem bit_trim (ws : List Nat) (j : Nat) : bit (trim ws) j = bit ws j := by unfold bit; rw [getD_trim]
theorem bit_delW {ws : List Nat} (hok : WOk ws) (k j : Nat) : bit (delW ws k) j = (bit ws j && !decide (k = j)) := by
  unfold delW
  split
  · rename_i hlt
    rw [bit_trim]
    unfold bit
    rw [getD_set _ _ _ _ hlt]
    by_cases h : k / 64 = j / 64
    · rw [if_pos h, testBit_andn (Nat.pow_lt_pow_right (by omega) (by omega)) (by omega), Nat.testBit_two_pow, h]
      congr 2
      rw [decide_eq_decide]; omega
    · rw [if_neg h]
      have : k ≠ j := by rintro rfl; exact h rfl
      simp [this]
  · rename_i hlt
    by_cases h : k = j
    · subst h
      cases hb : bit ws k with
      | false => rfl
      | true => have := bit_lt hb; omega
    · simp [h]
/-- the numbers, rising -/
def elems (ws : List Nat) : List Nat := (List.range (64 * ws.length)).filter (bit ws)
end Go.Vc
