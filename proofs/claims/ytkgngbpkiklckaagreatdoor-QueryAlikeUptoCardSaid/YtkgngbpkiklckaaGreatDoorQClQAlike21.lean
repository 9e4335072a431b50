/- Append of a row that may be empty. -/
import Derived.Test.YtkgngbpkiklckaaGreatDoorQClQAlike6
import Derived.Test.YtkgngbpkiklckaaGreatDoorQClQAlike20
namespace Go.Vc
open Go
section
variable {P : Program} {n : Nat} {a : Act} {e : Env} {w : World} {K : EPost} {all : List Oper} {G : List Nat} {ro : Ro} {dst : Option Tmp} {ty : TypeId} {pos : String} {after : Array Edge} {g : Option (Nat × Bool)} {l : List Oper} {t : TypeId} {x y : Operand}
/-- append of a row that may be empty -/
theorem o_appendR {T : TypeId} {td : TypeDesc} {tn : String} {size tby : Nat} {thp : Bool} {tal tfa : Nat} {z : Value} {tcm : Bool} {tms : Array Method}
    {ad ay : Option Addr} {k cap m cy : Nat} {xs : List Value} (news : List Value)
    (hx : ev e x = .slice ad k cap) (hy : ev e y = .slice ay m cy) (ho : OwnS w T size ad k cap xs) (hn : ReadS w ay news)
    (hu : P.underlying t = some (.slice T)) (hi : P.info? T = some ⟨td, tn, size, tby, thp, tal, tfa, some z, tcm, tms⟩) (hzs : z.cells.size = size) (hsz : 0 < size)
    (hl : news.length = m * size) (h1 : ∀ v ∈ news, v.oneCell' = true) (h63 : k + m ≤ maxLen) (hby : (k + m) * tby ≤ 140737488355328) (hd : dOk n dst = true) (hm : may all G e g = some true)
    (kk : ∀ ad' cap' w', OwnS w' T size ad' (k + m) cap' (xs ++ news) → Kp (blkOf ad) w w' → (∀ b, b ∈ blkOf ad' → b ∈ blkOf ad ∨ w.heap.size ≤ b) → Ops ro P n all G K l (put e dst (.slice ad' (k + m) cap')) w') :
    Ops ro P n all G K (⟨dst, .call ⟨.builtin .append, #[x, y], #[t, t]⟩, ty, pos, after, g⟩ :: l) e w := by
  by_cases h0 : m = 0
  · subst h0
    have hxs : news = [] := List.eq_nil_of_length_eq_zero (by omega)
    subst hxs
    exact o_append0 hx hy ho.le_cap hu hi hd hm (kk ad cap w (by rw [List.append_nil]; exact ho) (Kp.refl _ _) (fun b hb => .inl hb))
  · have hpos : 0 < news.length := by rw [hl]; exact Nat.mul_pos (by omega) hsz
    obtain ⟨b, off, rfl, _, _⟩ := hn.at_ hpos
    exact o_append news hx hy ho (fun j v hv => hn j v hv) hu hi hzs hsz hl (by omega) h1 h63 hby hd hm kk
end
end Go.Vc
/- Query: whole, named, sensible, looked, Check. -/
namespace Go.Vc
open Go Go.Proofs
set_option maxRecDepth 10000
variable {w : World}
/-- a question as a value -/
abbrev qV (ad : Option Addr) (n cap : Nat) : Value := .agg ⟨[.slice ad n cap]⟩
theorem whole_ret {l : List QN} {ad : Option Addr} {cap : Nat} (hA : AscW w) (hR : ReadS w ad (l.flatMap qC)) (hc : l.length ≤ cap) (hm : cap ≤ 9223372036854775807) (hnm : ∀ x ∈ l, x.name.length ≤ 9223372036854775806) :
    Ret Tryz.prog 36 [qV ad l.length cap] w (fun v w' => (match wholeM l with | none => v = .pointer none | some t => ∃ p, v = ptr p ∧ TreeAt shQ w.heap.size w' t p) ∧ Kp [] w w') := by
  have hw : wholeM l = match growF 66 0 l with | some (t, []) => some t | _ => none := rfl
  refine enter Tryz.call36 Tryz.func36 rfl rfl rfl rfl ?_
  (repeat first|refine zA ?_|refine zg ?_)
  refine o_box rfl rfl rfl ?_
  intro b w1 hb hu1
  have k1 : Kp [] w w1 := hu1.kp [] (.inr (by omega))
  have y1 := k1.size
  (repeat first|refine zA ?_|refine zg ?_|refine zo rfl rfl trivial ?_|refine zn ?_)
  refine o_load (v := .slice ad l.length cap) rfl hu1.blk rfl rfl rfl rfl rfl ?_
  refine o_call (grow_ret 66 0 rfl (hA.kp k1 (by simp)) (hR.kp k1 (by simp)) hc hm hnm) rfl rfl rfl ?_
  rintro v w2 ⟨hv, k2⟩
  cases hg : growF 66 0 l with
  | none =>
    rw [hg] at hv hw
    have hv : v = .tuple #[.pointer none, .slice none 0 0] := hv
    subst hv
    rw [hw]
    (repeat first|refine zA ?_|refine zB ?_|refine zg ?_|refine zo rfl rfl trivial ?_|refine zn ?_|refine zr ?_|refine zk ?_|refine zf rfl ?_)
    exact ⟨_, rfl, rfl, k1.trans k2⟩
  | some y =>
    obtain ⟨t, r⟩ := y
    rw [hg] at hv hw
    obtain ⟨p, ad', cap', rfl, hT, _, _, _, _⟩ := hv
    cases r with
    | nil =>
      rw [hw]
      (repeat first|refine zA ?_|refine zB ?_|refine zg ?_|refine zo rfl rfl trivial ?_|refine zn ?_|refine zr ?_|refine zk ?_|refine zf rfl ?_)
      exact ⟨_, rfl, ⟨p, rfl, hT.lo_le y1⟩, k1.trans k2⟩
    | cons x r =>
      rw [hw]
      (repeat first|refine zA ?_|refine zB ?_|refine zg ?_|refine zo rfl rfl trivial ?_|refine zn ?_)
      refine r_yes rfl (decide_eq_true (by simp)) ?_
      (repeat first|refine zA ?_|refine zg ?_|refine zo rfl rfl trivial ?_|refine zn ?_|refine zr ?_)
      exact ⟨_, rfl, rfl, k1.trans k2⟩
/-- looking through kids -/
theorem IndexTree_ret {ad : Option Addr} {cap : Nat} {ks : List (Nat × QT)} {f : FuncId} {cs : List Value} {b : Nat × QT → Bool} (hR : ReadS w ad (ks.map fun x => ptr x.1)) (hl : ks.length ≤ 2) (hf : ∀ x ∈ ks, ∀ W, Kp [] w W → Ret Tryz.prog f (ptr x.1 :: cs) W (fun v w' => v = .bool (b x) ∧ Kp [] w w')) :
    Ret Tryz.prog 158 [.slice ad ks.length cap, .func (.func f) #[] ⟨cs⟩] w (fun v w' => (∃ z : Int, v = I z ∧ decide (0 ≤ z) = ks.any b) ∧ Kp [] w w') := by
  refine enter Tryz.call158 Tryz.func158 rfl rfl rfl rfl ?_
  (repeat first|refine zA ?_|refine zB ?_|refine zg ?_|refine zo rfl rfl trivial ?_|refine zn ?_|refine zb ?_)
  refine r_loop (α := Nat) [0, 1, 7, 8] (fun i => [.slice ad ks.length cap, .func (.func f) #[] ⟨cs⟩, I ks.length, I i]) (fun i W => i ≤ ks.length ∧ Kp [] w W ∧ (ks.take i).any b = false) (fun i => ks.length - i) 0 rfl ⟨Nat.zero_le _, Kp.refl _ _, rfl⟩ ?_
  rintro i e W ⟨hi, kW, hn⟩
  (repeat first|refine zA ?_|refine zD ?_|refine zg ?_|refine zo rfl rfl trivial ?_|refine zn ?_)
  refine r_if rfl (fun hc => ?_) (fun hc => ?_)
  · have hi2 : i < ks.length := by omega
    obtain ⟨x, hx⟩ : ∃ x, ks[i]? = some x := ⟨_, List.getElem?_eq_getElem hi2⟩
    obtain ⟨b0, off, rfl, _, hcell⟩ := (hR.kp kW (by simp)).at_ (by simp; omega)
    have ht1 : ks.take (i + 1) = ks.take i ++ [x] := by rw [List.take_add_one, hx]; rfl
    (repeat first|refine zA ?_|refine zC ?_|refine zg ?_|refine zo rfl rfl (by first|exact trivial|(simp only[AllP];omega)) ?_|refine zn ?_|refine zb ?_|refine zk ?_)
    refine o_loadc (v := ptr x.1) rfl (by rw [toNat_nat]; exact hcell i _ (by rw [List.getElem?_map, hx]; rfl)) rfl rfl rfl rfl ?_
    refine o_callv (first := #[]) (cap := ⟨cs⟩) (hf x (List.mem_of_getElem? hx) W kW) rfl rfl rfl rfl ?_
    rintro v w2 ⟨rfl, k2⟩
    (repeat refine zn ?_)
    refine r_cond rfl (fun h => ?_) (fun h => ?_)
    · (repeat first|refine zA ?_|refine zg ?_|refine zo rfl rfl trivial ?_|refine zn ?_|refine zr ?_)
      refine ⟨_, rfl, ⟨i, rfl, ?_⟩, k2⟩
      rw [decide_eq_true (by omega)]
      symm
      rw [List.any_eq_true]
      exact ⟨x, List.mem_of_getElem? hx, h⟩
    · (repeat first|refine zg ?_|refine zo rfl rfl (by first|exact trivial|(simp only[AllP];omega)) ?_|refine zn ?_|refine zk ?_)
      exact ⟨i + 1, rfl, ⟨by omega, k2, by rw [ht1, List.any_append, hn]; simp [h]⟩, by omega⟩
  · have : i = ks.length := by omega
    subst this
    rw [List.take_length] at hn
    (repeat first|refine zA ?_|refine zg ?_|refine zo rfl rfl trivial ?_|refine zn ?_|refine ze rfl ?_|refine zr ?_)
    exact ⟨_, rfl, ⟨-1, rfl, by rw [hn]; rfl⟩, kW⟩
theorem ContainsTree_ret {ad : Option Addr} {cap : Nat} {ks : List (Nat × QT)} {f : FuncId} {cs : List Value} {b : Nat × QT → Bool} (hR : ReadS w ad (ks.map fun x => ptr x.1)) (hl : ks.length ≤ 2) (hf : ∀ x ∈ ks, ∀ W, Kp [] w W → Ret Tryz.prog f (ptr x.1 :: cs) W (fun v w' => v = .bool (b x) ∧ Kp [] w w')) :
    Ret Tryz.prog 125 [.slice ad ks.length cap, .func (.func f) #[] ⟨cs⟩] w (fun v w' => v = .bool (ks.any b) ∧ Kp [] w w') := by
  refine enter Tryz.call125 Tryz.func125 rfl rfl rfl rfl ?_
  (repeat first|refine zA ?_|refine zg ?_|refine zo rfl rfl trivial ?_|refine zn ?_)
  refine o_call (IndexTree_ret hR hl hf) rfl rfl rfl ?_
  rintro v w1 ⟨⟨z, rfl, hz⟩, k1⟩
  (repeat first|refine zo rfl rfl trivial ?_|refine zn ?_|refine zr ?_)
  exact ⟨_, rfl, by rw [← hz], k1⟩
theorem CloneS_ret {ad : Option Addr} {l : List (List UInt8)} {cap : Nat} (h : ReadS w ad (l.map S)) (hl : l.length ≤ 1048576) :
    Ret Tryz.prog 124 [.slice ad l.length cap] w (fun v w' => ∃ ad' cap', v = .slice ad' l.length cap' ∧ OwnS w' 9 1 ad' l.length cap' (l.map S) ∧ Kp [] w w' ∧ ∀ b, b ∈ blkOf ad' → w.heap.size ≤ b) := by
  refine enter Tryz.call124 Tryz.func124 rfl rfl rfl rfl ?_
  (repeat first|refine zA ?_|refine zB ?_|refine zg ?_|refine zo rfl rfl trivial ?_|refine zn ?_)
  cases ad with
  | none =>
    have h0 : l.map S = [] := by simpa [ReadS] using h
    have hl0 : l = [] := by simpa using h0
    subst hl0
    (repeat first|refine zA ?_|refine zg ?_|refine zo rfl rfl trivial ?_|refine zn ?_|refine zr ?_|refine zt rfl ?_)
    exact ⟨_, rfl, none, 0, rfl, ownS_nil _ _ _, Kp.refl _ _, by simp [blkOf]⟩
  | some a =>
    (repeat first|refine zA ?_|refine zg ?_|refine zo rfl rfl trivial ?_|refine zn ?_|refine zk ?_|refine zf rfl ?_)
    refine o_buildSlice0 rfl rfl rfl rfl ?_
    intro b w1 hb hu1
    have k1 : Kp [] w w1 := hu1.kp [] (.inr (by omega))
    have ho1 : OwnS w1 9 1 (some ⟨b, 0, none⟩) 0 0 [] := ⟨rfl, rfl, rfl, Nat.le_refl _, by simp [maxLen], [], hu1.blk, rfl⟩
    (repeat refine zo rfl rfl trivial ?_)
    refine o_appendR (k := 0) (l.map S) rfl rfl ho1 (h.kp k1 (by simp)) rfl rfl rfl (by decide) (by simp) (fun v hv => by obtain ⟨x, _, rfl⟩ := List.mem_map.1 hv; rfl) (by simp only [maxLen]; omega) (by omega) rfl rfl ?_
    intro ad' cap' w2 ho2 k2 hn2
    (repeat first|refine zo rfl rfl trivial ?_|refine zn ?_|refine zr ?_)
    rw [Nat.zero_add] at ho2 ⊢
    have hnew : ∀ b, b ∈ blkOf ad' → w.heap.size ≤ b := fun c hc => by
      have := k1.size
      rcases hn2 c hc with h | h
      · simp [blkOf] at h; omega
      · omega
    exact ⟨_, rfl, ad', cap', rfl, ho2, k1.since k2 (by simp [blkOf]; omega), hnew⟩
/-- are all names bound? (of a tree that may be) -/
theorem named_ret : ∀ (t : QT), goodT t → ∀ {w : World} {lo p : Nat} {nad : Option Addr} {ncap : Nat} (names : List (List UInt8)), TreeAt shQ lo w t p → ReadS w nad (names.map S) → names.length + t.depth ≤ 1000000 →
    Ret Tryz.prog 83 [ptr p, .slice nad names.length ncap] w (fun v w' => v = .bool (namedQ t names) ∧ Kp [] w w') := by
  intro t
  induction t using QT.ind with
  | h t ih =>
  intro hg w lo p nad ncap names hT hN hlen
  obtain ⟨bad, bcap, ks, hks, hB, hR, hK, _⟩ := hT.view
  have hkg : ∀ k ∈ t.kids, goodT k := by
    intro k hk
    cases t with
    | n0 => simp [QT.kids] at hk
    | n1 op num name a => simp [QT.kids] at hk; subst hk; exact hg.2.1
    | n2 op num name a b => simp [QT.kids] at hk; rcases hk with rfl | rfl; exact hg.2.1; exact hg.2.2.1
  have hop : ∃ k : Nat, t.op = k ∧ 1 ≤ k ∧ k ≤ 26 := by
    cases t with
    | n0 op num name => rcases hg with ⟨rfl, _⟩ | ⟨rfl, _⟩ | ⟨rfl, _⟩; exact ⟨1, rfl, by omega⟩; exact ⟨2, rfl, by omega⟩; exact ⟨3, rfl, by omega⟩
    | n1 op num name a =>
      obtain ⟨_, _, ⟨h, _⟩ | ⟨h, _⟩⟩ := hg
      · exact ⟨op.toNat, by show op = _; omega, by show 1 ≤ op.toNat; omega, by show op.toNat ≤ 26; omega⟩
      · exact ⟨op.toNat, by show op = _; omega, by show 1 ≤ op.toNat; omega, by show op.toNat ≤ 26; omega⟩
    | n2 op num name a b =>
      obtain ⟨_, _, _, _, h⟩ := hg
      exact ⟨op.toNat, by show op = _; omega, by show 1 ≤ op.toNat; omega, by show op.toNat ≤ 26; omega⟩
  obtain ⟨k, hk, hk1, hk2⟩ := hop
  -- what is meant, by the kids
  have hmean : namedQ t names = if t.op = 2 then names.contains t.name else !(ks.any fun x => !namedQ x.2 (if bindsO k then names ++ [t.name] else names)) := by
    have e1 : (ks.any fun x => !namedQ x.2 (if bindsO k then names ++ [t.name] else names)) = (t.kids.any fun x => !namedQ x (if bindsO k then names ++ [t.name] else names)) := by
      rw [← hks, List.any_map]; rfl
    rw [e1]
    have hb : bindsO k = decide (22 ≤ t.op) := by
      rw [hk]; unfold bindsO; rw [decide_eq_true hk2, Bool.and_true, decide_eq_decide]; omega
    rw [hb]
    cases t with
    | n0 op num name => rw [namedQ]; rfl
    | n1 op num name a =>
      have h2 : op ≠ 2 := by obtain ⟨_, _, ⟨h, _⟩ | ⟨h, _⟩⟩ := hg <;> omega
      show namedQ a _ = (if op = 2 then _ else _)
      rw [if_neg h2]
      show _ = !((!namedQ a (if decide (22 ≤ op) = true then _ else _)) || false)
      simp
      rfl
    | n2 op num name a b =>
      obtain ⟨_, _, _, _, h⟩ := hg
      have h2 : op ≠ 2 := by omega
      have h22 : ¬ 22 ≤ op := by omega
      show (namedQ a names && namedQ b names) = (if op = 2 then _ else _)
      rw [if_neg h2]
      show _ = !((!namedQ a (if decide (22 ≤ op) = true then _ else _)) || ((!namedQ b (if decide (22 ≤ op) = true then _ else _)) || false))
      simp [h22]
  have hkl : ks.length ≤ 2 := by rw [← List.length_map (f := fun x : Nat × QT => x.2), hks]; exact t.kids_len
  have hpl := hB.lt
  rw [hk] at hB
  refine enter Tryz.call83 Tryz.func83 rfl rfl rfl rfl ?_
  (repeat first|refine zA ?_|refine zg ?_)
  refine o_box rfl rfl rfl ?_
  intro b w1 hb hu1
  have k1 : Kp [] w w1 := hu1.kp [] (.inr (by omega))
  have hB1 := k1.blk (by simp) hB
  have hb1 : Blk w1 b [.slice nad names.length ncap] 159 := hu1.blk
  have y1 := k1.size
  have l1 := hb1.lt
  (repeat first|refine zA ?_|refine zB ?_|refine zg ?_|refine zo rfl rfl trivial ?_|refine zn ?_|refine o_load rfl hB1 rfl rfl rfl rfl rfl ?_)
  refine r_if rfl (fun h2 => ?_) (fun h2 => ?_)
  · rw [hmean, if_pos (by omega)]
    refine r_seq ?_
    refine r_cut (α := Unit) [4] (fun _ => [.bool (names.contains t.name)]) (fun _ W => Kp [] w W) ?_ ?_
    · refine r_quietK follows_mixed (by kernel_rfl) ?_
      refine q_load rfl (fun _ hs => (Kp.blk hs (by simp) hb1).cell rfl) rfl rfl rfl rfl ?_
      (repeat first|refine yo rfl rfl trivial ?_|refine q_load rfl (fun _ hs => (Kp.blk hs (by simp) hB1).cell rfl) rfl rfl rfl rfl ?_)
      refine q_call (.bool (names.contains t.name)) (fun w' hw => (ContainsStr_ret ((hN.kp k1 (by simp)).kp hw (by simp)) (by omega) t.name).mono (fun v w'' ⟨h1, h2⟩ => ⟨h1, h2 ▸ hw⟩)) Tryz.call105 rfl rfl rfl ?_
      (repeat first|refine yo rfl rfl trivial ?_|refine yn ?_)
      intro w' hs
      exact ⟨(), rfl, k1.trans hs⟩
    rintro _ e w2 k2
    (repeat refine zr ?_)
    exact ⟨_, rfl, rfl, k2⟩
  rw [hmean, if_neg (by omega)]
  (repeat first|refine zA ?_|refine zB ?_|refine zg ?_|refine zo rfl rfl trivial ?_|refine zk ?_)
  refine o_load (v := .bool (bindsO k)) rfl hB1 rfl rfl rfl rfl rfl ?_
  (repeat refine zn ?_)
  refine r_cut (α := Option Addr × Nat) [0, 3] (fun _ => [ptr p, ptr b]) (fun y W => Blk W b [.slice y.1 (if bindsO k then names ++ [t.name] else names).length y.2] 159 ∧ ReadS W y.1 ((if bindsO k then names ++ [t.name] else names).map S) ∧ Kp [] w W) ?_ ?_
  · refine r_cond rfl (fun hbi => ?_) (fun hbi => ?_)
    · rw [if_pos hbi]
      refine r_any (fun w' => Kp [] w1 w') 10 follows_mixed (by kernel_rfl) ?_
      have kk := (Sm.drew w1).kp []
      generalize ({ w1 with drawn := w1.drawn + 1 } : World) = wd at kk ⊢
      have zd := kk.size
      refine t_seg [0, 2, 3, 4, 5, 6] 4 (by kernel_rfl) (by kernel_rfl) (by kernel_rfl) kk ?_
      try dsimp only [List.map_cons, List.map_nil]
      refine x_load rfl rfl (fun w' h' => (h'.blk (by simp) hb1).cell rfl) rfl rfl rfl rfl ?_
      (repeat refine xo rfl rfl trivial ?_)
      refine x_load (v := S t.name) rfl rfl (fun w' h' => (h'.blk (by simp) hB1).cell rfl) rfl rfl rfl rfl ?_
      (repeat refine xn ?_)
      refine t_with (fun e w' => ∃ (lad : Option Addr) (lcap bm : Nat), [0, 3, 24, 30].map e = [ptr p, ptr b, .slice lad names.length lcap, .slice (some ⟨bm, 0, none⟩) 1 1] ∧ Kp [] wd w' ∧ OwnS w' 9 1 lad names.length lcap (names.map S) ∧ Blk w' bm [S t.name] 9 ∧ ∀ c, c ∈ blkOf lad → w1.heap.size ≤ c) 2 [0, 2, 3, 4, 5, 6, 1, 7] ?_ (fun hleaf => ?_)
      · rintro e wz ⟨lad, lcap, bm, he', kz, ho, hBm, hln⟩
        rw [← over_eq he']
        have zz := kz.size
        refine t_one 8 (by kernel_rfl) rfl ?_
        refine o_append1 rfl rfl ho hBm rfl rfl rfl rfl (by simp only [maxLen]; omega) (by omega) rfl rfl ?_
        intro xad xcap w8 ho8 k8 hn8
        have hx8 : ∀ c, c ∈ blkOf xad → w1.heap.size ≤ c := fun c hc => by
          rcases hn8 c hc with q | q
          · exact hln c q
          · omega
        have q18 : Kp [] w1 w8 := (kk.trans kz).since k8 hln
        refine o_nil ⟨.inr q18, ?_⟩
        refine t_one 9 (by kernel_rfl) rfl ?_
        refine o_store (b := b) (v := .slice xad (names.length + 1) xcap) rfl (q18.blk (by simp) hb1) (by simp) rfl rfl rfl rfl rfl rfl ?_
        intro w9 hu9
        refine o_nil ⟨.inl (by kernel_rfl), t_end (by kernel_rfl) ?_⟩
        have e1 : (names ++ [t.name]).length = names.length + 1 := by simp
        refine ⟨(xad, xcap), rfl, by rw [e1]; exact hu9.blk, ?_, (k1.trans q18).since (hu9.kp [b] (.inl (by simp))) (by simp; omega)⟩
        rw [List.map_append]
        exact (ho8.upd hu9 (fun hb => by have := hx8 _ hb; omega)).read
      refine t_two 1 7 (by kernel_rfl) rfl rfl ?_ ?_
      · refine o_call (CloneS_ret ((hN.kp k1 (by simp)).kp kk (by simp)) (by omega)) rfl rfl rfl ?_
        rintro v w4 ⟨lad, lcap, rfl, ho4, k4, hn4⟩
        refine o_nil ⟨.inr (kk.trans k4), ?_⟩
        refine t_one 7 (by kernel_rfl) rfl ?_
        refine o_buildSlice [S t.name] rfl (by simp [Value.oneCell']) rfl (by decide) (by decide) rfl rfl rfl rfl rfl ?_
        intro bm w5 hbm hu5
        have k5 : Kp [] w4 w5 := hu5.kp [] (.inr (by omega))
        refine o_nil ⟨.inr (kk.trans (k4.trans k5)), ?_⟩
        exact t_same (by kernel_rfl) (hleaf _ _ ⟨lad, lcap, bm, rfl, k4.trans k5, ho4.kp k5 (by simp), hu5.blk, fun c hc => by have := hn4 c hc; omega⟩)
      · refine o_buildSlice [S t.name] rfl (by simp [Value.oneCell']) rfl (by decide) (by decide) rfl rfl rfl rfl rfl ?_
        intro bm w5 hbm hu5
        have k5 : Kp [] wd w5 := hu5.kp [] (.inr (by omega))
        refine o_nil ⟨.inr (kk.trans k5), ?_⟩
        refine t_one 1 (by kernel_rfl) rfl ?_
        refine o_call (CloneS_ret (((hN.kp k1 (by simp)).kp kk (by simp)).kp k5 (by simp)) (by omega)) rfl rfl rfl ?_
        rintro v w4 ⟨lad, lcap, rfl, ho4, k4, hn4⟩
        have zk5 := k5.size
        refine o_nil ⟨.inr (kk.trans (k5.trans k4)), ?_⟩
        exact t_same (by kernel_rfl) (hleaf _ _ ⟨lad, lcap, bm, rfl, k5.trans k4, ho4, k4.blk (by simp) hu5.blk, fun c hc => by have := hn4 c hc; omega⟩)
    · rw [if_neg (by rw [hbi]; simp)]
      (repeat refine zk ?_)
      exact ⟨(nad, ncap), rfl, hb1, hN.kp k1 (by simp), k1⟩
  generalize hnn : (if bindsO k then names ++ [t.name] else names) = names'
  have hnl : names'.length ≤ names.length + 1 := by
    rw [← hnn]; split <;> simp
  rintro ⟨nad', ncap'⟩ e w2 ⟨hb2, hN2, k2⟩
  dsimp only at hb2 hN2
  have hB2 := k2.blk (by simp) hB
  have hR2 := hR.kp k2 (by simp)
  (repeat first|refine zA ?_|refine zg ?_|refine zo rfl rfl trivial ?_)
  refine o_load (v := .slice bad ks.length bcap) rfl hB2 rfl rfl rfl rfl rfl ?_
  (repeat refine zo rfl rfl trivial ?_)
  refine o_call (ContainsTree_ret (f := 126) (cs := [ptr b]) (b := fun x => !namedQ x.2 names') hR2 hkl (fun x hx W kW => ?_)) rfl rfl rfl ?_
  · have hxk : x.2 ∈ t.kids := by rw [← hks]; exact List.mem_map_of_mem hx
    have hdl := t.depth_lt hxk
    refine enter Tryz.call126 Tryz.func126 rfl rfl rfl rfl ?_
    (repeat first|refine zA ?_|refine zg ?_|refine zo rfl rfl trivial ?_|refine zn ?_)
    refine o_load rfl (kW.blk (by simp) hb2) rfl rfl rfl rfl rfl ?_
    refine o_call (ih x.2 hxk (hkg _ hxk) names' ((hK x hx).kp (k2.trans kW) (by simp)) (hN2.kp kW (by simp)) (by omega)) rfl rfl rfl ?_
    rintro v w3 ⟨rfl, k3⟩
    (repeat first|refine zo rfl rfl trivial ?_|refine zn ?_|refine zr ?_)
    exact ⟨_, rfl, rfl, kW.trans k3⟩
  rintro v w3 ⟨rfl, k3⟩
  (repeat first|refine zo rfl rfl trivial ?_|refine zn ?_|refine zr ?_)
  exact ⟨_, rfl, rfl, k2.trans k3⟩
end Go.Vc
/- Query: what was printed is read as that tree, in plain Lean (no program in sight). -/
namespace Go.Vc
open Go
/-- from some fuel on -/
def Rds (lvl : Nat) (s : TS) (t : QT) (s' : TS) : Prop := ∃ N, ∀ n, N ≤ n → rd n lvl s = .ok (t, s')
/-- what may stand behind a whole question -/
def endR (r : List T0) : Prop := r = [] ∨ ∃ r', r = wT [41] :: r' ∨ r = wT [44] :: r'
/-- no operation of a row, of a comparison stands there -/
def noOp (s : TS) (lvl : Nat) : Prop := (lvl ≤ 4 → rowOp 4 s = none) ∧ (lvl ≤ 3 → rowOp 3 s = none) ∧ (lvl ≤ 2 → cmpOp s = none) ∧ (lvl ≤ 1 → rowOp 1 s = none) ∧ (lvl = 0 → rowOp 0 s = none)
/-- a factor is a product, a sum, .. as far as the level goes -/
theorem up_row {lvl : Nat} {s s' : TS} {t : QT} (hl : lvl = 0 ∨ lvl = 1 ∨ lvl = 3 ∨ lvl = 4) (h : Rds (subLvl lvl) s t s') (hn : rowOp lvl s' = none) : Rds lvl s t s' := by
  obtain ⟨N, h⟩ := h
  refine ⟨N + 2, fun n hN => ?_⟩
  obtain ⟨m, rfl⟩ : ∃ m, n = m + 2 := ⟨n - 2, by omega⟩
  have h1 := h (m + 1) (by omega)
  have e : rd (m + 2) lvl s = (rd (m + 1) (subLvl lvl) s >>= fun x => rw (m + 1) lvl x.1 x.2) := by
    rcases hl with rfl | rfl | rfl | rfl <;> rfl
  rw [e, h1]
  show rw (m + 1) lvl t s' = _
  rw [rw, hn]
theorem rd2 (n : Nat) (s : TS) : rd (n + 1) 2 s = if s.is (opWord 17) then (adv s >>= fun s => rd n 2 s >>= fun x => .ok (.n1 17 0 [] x.1, x.2)) else (rd n 3 s >>= fun x => match cmpOp x.2 with
    | some op => adv x.2 >>= fun s => rd n 3 s >>= fun y => .ok (.n2 op 0 [] x.1 y.1, y.2)
    | none => .ok x) := by
  rw [rd]
  split
  · rfl
  · congr 1
theorem up_simple {s s' : TS} {t : QT} (h : Rds 3 s t s') (h0 : s.is (opWord 17) = false) (hn : cmpOp s' = none) : Rds 2 s t s' := by
  obtain ⟨N, h⟩ := h
  refine ⟨N + 1, fun n hN => ?_⟩
  obtain ⟨m, rfl⟩ : ∃ m, n = m + 1 := ⟨n - 1, by omega⟩
  rw [rd2, h0, if_neg (by simp), h m (by omega)]
  show (match cmpOp s' with | some op => _ | none => _) = _
  rw [hn]
theorem up {s s' : TS} {t : QT} (h : Rds 5 s t s') (h0 : s.is (opWord 17) = false) (lvl : Nat) (hl : lvl ≤ 5) (hn : noOp s' lvl) : Rds lvl s t s' := by
  obtain ⟨n4, n3, n2, n1, n0⟩ := hn
  rcases Nat.lt_or_ge 4 lvl with h5 | h4
  · rw [show lvl = 5 by omega]; exact h
  have g4 : Rds 4 s t s' := up_row (by simp) h (n4 h4)
  rcases Nat.lt_or_ge 3 lvl with h5 | h3
  · rw [show lvl = 4 by omega]; exact g4
  have g3 : Rds 3 s t s' := up_row (by simp) g4 (n3 h3)
  rcases Nat.lt_or_ge 2 lvl with h5 | h2
  · rw [show lvl = 3 by omega]; exact g3
  have g2 : Rds 2 s t s' := up_simple g3 h0 (n2 h2)
  rcases Nat.lt_or_ge 1 lvl with h5 | h1
  · rw [show lvl = 2 by omega]; exact g2
  have g1 : Rds 1 s t s' := up_row (by simp) g2 (n1 h1)
  rcases Nat.lt_or_ge 0 lvl with h5 | h00
  · rw [show lvl = 1 by omega]; exact g1
  rw [show lvl = 0 by omega]
  exact up_row (by simp) g1 (n0 (by omega))
theorem rd5 (n : Nat) {t : Tok} {r : TS} : rd (n + 1) 5 (.tok t r) = if 0 ≤ t.num then (adv (.tok t r) >>= fun s => .ok (.n0 1 t.num [], s))
    else if (TS.tok t r).is (opWord 4) then (adv (.tok t r) >>= fun s => rd n 5 s >>= fun x => .ok (.n1 4 0 [] x.1, x.2))
    else if (TS.tok t r).is [40] then (adv (.tok t r) >>= fun s => rd n 0 s >>= fun x => mustT x.2 [41] >>= fun s => .ok (x.1, s))
    else match kindOf t.text with
      | some k => adv (.tok t r) >>= fun s => .ok (.n0 1 k [], s)
      | none => if opOf t.text ≠ 0 then wd n (opOf t.text) (.tok t r) else if qName t.text then (adv (.tok t r) >>= fun s => .ok (.n0 2 0 t.text, s)) else .error (301, t.at_) := by
  rw [rd] <;> first | rfl | (intro h; cases h)
end Go.Vc
/- Query: there and back, in plain Lean (no program in sight). -/
namespace Go.Vc
open Go
/-- what is read of a kid -/
def FactP (t : QT) : Prop := ∀ s r, s.strip = some (brkT t (tokM t) ++ r) → ∃ s', Rds 5 s t s' ∧ s'.strip = some r
def QuestP (t : QT) : Prop := ∀ s r, s.strip = some (tokM t ++ r) → endR r → ∃ s', Rds 0 s t s' ∧ s'.strip = some r
theorem noOp.mono {s : TS} {a b : Nat} (h : noOp s a) (hab : a ≤ b) : noOp s b :=
  ⟨fun h1 => h.1 (by omega), fun h1 => h.2.1 (by omega), fun h1 => h.2.2.1 (by omega), fun h1 => h.2.2.2.1 (by omega), fun h1 => h.2.2.2.2 (by omega)⟩
end Go.Vc
