/- abreastref23: both, Held. -/
import Derived.Test.YtkgjibhbhddckaaDoorQClKPlays35
namespace Go.Vc
open Go Go.Proofs
set_option maxRecDepth 10000
variable {w : World}
/-- both on its way: i of the first list's are done, j of the second are met -/
def bothA (a b : List Nat) (i j : Nat) : List Nat := bothR (a.take i) b ++ (b.take j).filter fun y => decide (a[i]?.getD 0 = y)
theorem bothA_zero (a b : List Nat) (i : Nat) : bothA a b i 0 = bothR (a.take i) b := by simp [bothA]
theorem bothA_end {a b : List Nat} {i : Nat} (h : i < a.length) : bothA a b i b.length = bothR (a.take (i + 1)) b := by
  have e : a.take (i + 1) = a.take i ++ [a[i]] := by rw [List.take_add_one, List.getElem?_eq_getElem h]; rfl
  unfold bothA bothR
  rw [e, List.take_length, List.getElem?_eq_getElem h, List.flatMap_append, List.flatMap_singleton]
  rfl
theorem bothA_succ {a b : List Nat} {i j : Nat} {x y : Nat} (hx : a[i]? = some x) (hy : b[j]? = some y) : bothA a b i (j + 1) = bothA a b i j ++ if x = y then [x] else [] := by
  unfold bothA
  rw [List.take_add_one, hy, hx]
  simp only [Option.getD_some, Option.toList_some, List.filter_append, List.append_assoc]
  by_cases h : x = y
  · subst h; simp
  · simp [h]
theorem bothR_len (a b : List Nat) : (bothR a b).length ≤ a.length * b.length := by
  unfold bothR
  induction a with
  | nil => simp
  | cons x r ih =>
    rw [List.flatMap_cons, List.length_append, List.length_cons, Nat.add_mul, Nat.one_mul]
    have := List.length_filter_le (fun y => decide (x = y)) b
    omega
theorem bothA_len {a b : List Nat} (ha : a.length ≤ 4096) (hb : b.length ≤ 4096) {i j : Nat} (hi : i ≤ a.length) : (bothA a b i j).length ≤ 16781312 := by
  unfold bothA
  rw [List.length_append]
  have h1 := bothR_len (a.take i) b
  have h2 := List.length_filter_le (fun y => decide (a[i]?.getD 0 = y)) (b.take j)
  have h3 : (a.take i).length ≤ 4096 := by rw [List.length_take]; omega
  have h4 : (b.take j).length ≤ 4096 := by rw [List.length_take]; omega
  have h5 := Nat.mul_le_mul h3 hb
  omega
theorem encI_get {l : List Nat} {i x : Nat} (h : l[i]? = some x) : (l.map encI)[i]? = some (I x) := by rw [List.getElem?_map, h]; rfl
set_option maxHeartbeats 3200000 in
theorem both23_ret {a b : List Nat} {aad bad : Option Addr} {acap bcap : Nat} (ha : ReadS w aad (a.map encI)) (hb : ReadS w bad (b.map encI)) (hal : a.length ≤ 4096) (hbl : b.length ≤ 4096) :
    Ret Tryd.prog 76 [.slice aad a.length acap, .slice bad b.length bcap] w (fun v w' => ∃ ad cap, v = .slice ad (bothR a b).length cap ∧ NewS w 3 w' ad (bothR a b).length cap ((bothR a b).map encI)) := by
  refine enter Tryd.call76 Tryd.func76 rfl rfl rfl rfl ?_
  (repeat first|refine zA ?_|refine zB ?_|refine zg ?_|refine zo rfl rfl trivial ?_|refine zn ?_|refine zb ?_)
  refine r_loop (α := Nat × Option Addr × Nat) [0, 1, 5, 6] (fun x => [.slice aad a.length acap, .slice bad b.length bcap, .slice x.2.1 (bothR (a.take x.1) b).length x.2.2, I x.1]) (fun x W => NewS w 3 W x.2.1 (bothR (a.take x.1) b).length x.2.2 ((bothR (a.take x.1) b).map encI) ∧ x.1 ≤ a.length) (fun x => a.length - x.1) (0, none, 0) rfl ⟨⟨by simpa [bothR] using ownS_nil _ _ _, Kp.refl _ _, by simp [blkOf]⟩, by omega⟩ ?_
  rintro ⟨i, ad, cap⟩ e W ⟨hn, hi⟩
  dsimp only at hn hi ⊢
  (repeat first|refine zA ?_|refine zB ?_|refine zg ?_|refine zo rfl rfl trivial ?_|refine zn ?_)
  refine r_if rfl (fun hc => ?_) (fun hc => ?_)
  · have hlt : i < a.length := by omega
    obtain ⟨x, hx⟩ : ∃ x, a[i]? = some x := ⟨_, List.getElem?_eq_getElem hlt⟩
    (repeat first|refine zA ?_|refine zC ?_|refine zg ?_|refine zo rfl rfl trivial ?_|refine zn ?_|refine zb ?_|refine zk ?_)
    rw [← bothA_zero] at hn
    refine r_loop (α := Nat × Option Addr × Nat) [0, 1, 5, 6, 7] (fun x => [.slice aad a.length acap, .slice bad b.length bcap, .slice x.2.1 (bothA a b i x.1).length x.2.2, I i, I x.1]) (fun x W => NewS w 3 W x.2.1 (bothA a b i x.1).length x.2.2 ((bothA a b i x.1).map encI) ∧ x.1 ≤ b.length) (fun x => b.length - x.1) (0, ad, cap) (by dsimp only; rw [bothA_zero]; rfl) ⟨hn, by omega⟩ ?_
    clear hn
    rintro ⟨j, ad, cap⟩ e W ⟨hn, hj⟩
    dsimp only at hn hj ⊢
    (repeat first|refine zA ?_|refine zB ?_|refine zg ?_|refine zo rfl rfl trivial ?_|refine zn ?_)
    refine r_if rfl (fun hc => ?_) (fun hc => ?_)
    · have hlj : j < b.length := by omega
      obtain ⟨y, hy⟩ : ∃ y, b[j]? = some y := ⟨_, List.getElem?_eq_getElem hlj⟩
      obtain ⟨ab, ao, rfl, hab, hac⟩ := ha.at_ (by simp; omega)
      obtain ⟨bb, bo, rfl, hbb, hbc⟩ := hb.at_ (by simp; omega)
      have hacx : ∀ W', Kp [] w W' → W'.cell? ⟨ab, ao + i, none⟩ = some (I x) := fun W' h' => by rw [← hac i _ (encI_get hx)]; exact World.cell?_of_block (h'.at_ ab hab (by simp))
      have hbcx : ∀ W', Kp [] w W' → W'.cell? ⟨bb, bo + j, none⟩ = some (I y) := fun W' h' => by rw [← hbc j _ (encI_get hy)]; exact World.cell?_of_block (h'.at_ bb hbb (by simp))
      have hs := bothA_succ hx hy
      have hbl := bothA_len hal hbl (j := j) hi
      (repeat first|refine zC ?_|refine zb ?_|refine zk ?_)
      refine r_seq ?_
      refine r_quietS follows_mixed (by kernel_rfl) ?_
      (repeat refine yo rfl rfl (by first|exact trivial|(simp only[AllP];omega)) ?_)
      refine q_load (v := I x) rfl (fun w' hs => hacx w' (hn.kp.trans (hs.kp []))) rfl rfl rfl rfl ?_
      (repeat refine yo rfl rfl (by first|exact trivial|(simp only[AllP];omega)) ?_)
      refine q_load (v := I y) rfl (fun w' hs => hbcx w' (hn.kp.trans (hs.kp []))) rfl rfl rfl rfl ?_
      (repeat first|refine yo rfl rfl trivial ?_|refine yn ?_)
      intro w2 hs2
      have k2 : Kp [] W w2 := hs2.kp []
      refine r_if (p := x = y) (by show Value.bool (decide ((x : Int) = (y : Int))) = _; congr 1; simp; omega) (fun he => ?_) (fun he => ?_)
      · rw [if_pos he] at hs
        (repeat first|refine zg ?_|refine zo rfl rfl (by first|exact trivial|(simp only[AllP];omega)) ?_)
        refine o_loadc (v := I x) rfl (hacx _ (hn.kp.trans k2)) rfl rfl rfl rfl ?_
        refine o_buildSlice [I x] rfl (by simp [Value.oneCell']) rfl (by decide) (by decide) rfl rfl rfl rfl rfl ?_
        intro bm w3 hbm hu3
        have k3 : Kp [] w2 w3 := hu3.kp [] (.inr (by omega))
        refine o_append1 rfl rfl (hn.own.kp (k2.trans k3) (by simp)) hu3.blk rfl rfl rfl rfl (by simp only [maxLen]; omega) (by omega) rfl rfl ?_
        intro ad' cap' w4 ho4 k4 hn4
        (repeat first|refine zg ?_|refine zo rfl rfl (by first|exact trivial|(simp only[AllP];omega)) ?_|refine zn ?_)
        have e1 : (bothA a b i (j + 1)).length = (bothA a b i j).length + 1 := by rw [hs, List.length_append]; rfl
        refine ⟨(j + 1, ad', cap'), by dsimp only; rw [e1]; rfl, ⟨?_, by dsimp only; omega⟩, by dsimp only; omega⟩
        dsimp only
        rw [e1, hs, List.map_append]
        exact hn.push (k2.trans k3) ho4 k4 hn4
      · rw [if_neg he, List.append_nil] at hs
        (repeat first|refine zg ?_|refine zo rfl rfl (by first|exact trivial|(simp only[AllP];omega)) ?_|refine zn ?_|refine zk ?_)
        refine ⟨(j + 1, ad, cap), by dsimp only; rw [hs]; rfl, ⟨?_, by dsimp only; omega⟩, by dsimp only; omega⟩
        dsimp only
        rw [hs]
        exact ⟨hn.own.kp k2 (by simp), hn.kp.trans k2, hn.new⟩
    · have hjl : j = b.length := by omega
      subst hjl
      rw [bothA_end hlt] at hn ⊢
      (repeat first|refine zg ?_|refine zo rfl rfl (by first|exact trivial|(simp only[AllP];omega)) ?_|refine zn ?_|refine ze rfl ?_)
      exact ⟨(i + 1, ad, cap), rfl, ⟨hn, by dsimp only; omega⟩, by dsimp only; omega⟩
  · have hil : i = a.length := by omega
    subst hil
    rw [List.take_length] at hn ⊢
    (repeat first|refine zA ?_|refine zg ?_|refine zo rfl rfl trivial ?_|refine zn ?_|refine ze rfl ?_|refine zr ?_)
    exact ⟨_, rfl, ad, cap, rfl, hn⟩
/-- the locks below i that a thread holds -/
def heldTo (c : Ck) (t : Int) (i : Nat) : List Nat := (List.range i).filter fun i => decide (c.O (i : Int) = some t)
theorem heldTo_succ (c : Ck) (t : Int) (i : Nat) : heldTo c t (i + 1) = heldTo c t i ++ if c.O (i : Int) = some t then [i] else [] := by
  unfold heldTo
  rw [List.range_succ, List.filter_append]
  congr 1
  by_cases h : c.O (i : Int) = some t <;> simp [h]
theorem heldTo_len (c : Ck) (t : Int) (i : Nat) : (heldTo c t i).length ≤ i := by
  unfold heldTo
  have := List.length_filter_le (fun i : Nat => decide (c.O (i : Int) = some t)) (List.range i)
  rw [List.length_range] at this; exact this
theorem heldTo_neg {s : Shp} {c : Ck} (h : CkOk s c) {t : Int} (ht : t < 0) (i : Nat) : heldTo c t i = [] := by
  unfold heldTo
  rw [List.filter_eq_nil_iff]
  intro j _ hj
  have hj := of_decide_eq_true hj
  have := (h.O _ _ hj).2
  omega
end Go.Vc
/- abreastref23: a keeper in memory; Held, of. -/
namespace Go.Vc
open Go Go.Proofs
set_option maxRecDepth 10000
variable {w : World}
theorem nS_nil : NewS w 3 w none 0 0 [] := ⟨ownS_nil _ _ _, Kp.refl _ _, by simp [blkOf]⟩
/-- an access, and where its locks lie -/
structure AG where
  a : AccR
  ad : Option Addr
  cap : Nat
abbrev agC (x : AG) : List Value := [I x.a.at_, I x.a.ev.k, I x.a.ev.t, I x.a.ev.o, .slice x.ad x.a.h.length x.cap]
structure K23 where
  p : Nat
  rg : RG
  pad : Option Addr
  pcap : Nat
  aad : Option Addr
  acap : Nat
  ag : List AG
def agB (l : List AG) : List Nat := l.flatMap fun x => blkOf x.ad
def K23.In (g : K23) (b : Nat) : Prop := b = g.p ∨ b ∈ g.rg.F ∨ b ∈ blkOf g.aad ∨ b ∈ agB g.ag
/-- what is written to -/
def K23.Wr (g : K23) (b : Nat) : Prop := b = g.p ∨ b ∈ g.rg.W ∨ b ∈ blkOf g.aad
abbrev k23C (g : K23) (s : Shp) (c : Ck) : List Value := [ptr g.rg.p, I s.th, I s.va, I s.vo, I s.lo, .slice g.pad s.pa.length g.pcap, I c.n, .slice g.aad g.ag.length g.acap]
/-- rows of locks that stand -/
def AgOk (w : World) (l : List AG) : Prop := ∀ x ∈ l, ReadS w x.ad (x.a.h.map encI) ∧ x.a.h.length ≤ 4096 ∧ ∀ b, b ∈ blkOf x.ad → b < w.heap.size
theorem AgOk.kp {l : List AG} (h : AgOk w l) {w' : World} {S : List Nat} (hk : Kp S w w') (hS : ∀ b, b ∈ agB l → b ∉ S) : AgOk w' l := fun x hx => by
  obtain ⟨h1, h2, h3⟩ := h x hx
  exact ⟨h1.kp hk (fun b hb => hS b (List.mem_flatMap.2 ⟨x, hx, hb⟩)), h2, fun b hb => Nat.lt_of_lt_of_le (h3 b hb) hk.size⟩
theorem AgOk.lt {l : List AG} (h : AgOk w l) : ∀ b, b ∈ agB l → b < w.heap.size := fun b hb => by
  obtain ⟨x, hx, hb⟩ := List.mem_flatMap.1 hb
  exact (h x hx).2.2 b hb
structure R23M (w : World) (g : K23) (s : Shp) (c : Ck) (A : List AccR) : Prop where
  hdr : Blk w g.p (k23C g s c) 101
  rc : RAt w g.rg s c
  own : OwnS w 104 5 g.aad g.ag.length g.acap (g.ag.flatMap agC)
  ags : g.ag.map AG.a = A
  rd : AgOk w g.ag
  n1 : g.p ∉ g.rg.F
  n2 : g.p ∉ blkOf g.aad
  n3 : g.p ∉ agB g.ag
  n4 : ∀ b, b ∈ blkOf g.aad → b ∉ g.rg.F ∧ b ∉ agB g.ag
  n5 : ∀ b, b ∈ agB g.ag → b ∉ g.rg.F
structure R23 (w : World) (g : K23) (s : Shp) (c : Ck) (A : List AccR) : Prop extends R23M w g s c A where
  al : g.ag.length ≤ c.n
section
variable {g : K23} {s : Shp} {c : Ck} {A : List AccR}
theorem R23M.lt (h : R23M w g s c A) : ∀ b, g.In b → b < w.heap.size := fun b hb => by
  rcases hb with rfl | hb | hb | hb
  · exact h.hdr.lt
  · exact h.rc.toRM.lt b hb
  · exact h.own.lt b hb
  · exact h.rd.lt b hb
theorem R23M.kp (h : R23M w g s c A) {w' : World} {S : List Nat} (hk : Kp S w w') (hS : ∀ b, g.In b → b ∉ S) : R23M w' g s c A where
  hdr := hk.blk (hS _ (.inl rfl)) h.hdr
  rc := h.rc.kp hk (fun b hb => hS b (.inr (.inl hb)))
  own := h.own.kp hk (fun b hb => hS b (.inr (.inr (.inl hb))))
  ags := h.ags
  rd := h.rd.kp hk (fun b hb => hS b (.inr (.inr (.inr hb))))
  n1 := h.n1
  n2 := h.n2
  n3 := h.n3
  n4 := h.n4
  n5 := h.n5
theorem R23.kp (h : R23 w g s c A) {w' : World} {S : List Nat} (hk : Kp S w w') (hS : ∀ b, g.In b → b ∉ S) : R23 w' g s c A := ⟨h.toR23M.kp hk hS, h.al⟩
theorem R23.kp0 (h : R23 w g s c A) {w' : World} (hk : Kp [] w w') : R23 w' g s c A := h.kp hk (by simp)
theorem R23.sm (h : R23 w g s c A) {w' : World} (hk : Sm w w') : R23 w' g s c A := h.kp0 (hk.kp [])
set_option maxHeartbeats 3200000 in
theorem rHeld_ret (h : R23 w g s c A) (t : Int) : Ret Tryd.prog 42 [ptr g.p, I t] w (fun v w' => ∃ ad cap, v = .slice ad (heldR s c t).length cap ∧ NewS w 3 w' ad (heldR s c t).length cap ((heldR s c t).map encI)) := by
  have hlo : 0 ≤ s.lo ∧ s.lo ≤ 4096 := h.rc.ok.sh.2.2.2.1
  refine enter Tryd.call42 Tryd.func42 rfl rfl rfl rfl ?_
  (repeat first|refine zA ?_|refine zB ?_|refine zg ?_|refine zo rfl rfl trivial ?_|refine zn ?_|refine zU rfl rfl rfl ?_)
  refine r_if (p := t < 0) rfl (fun ht => ?_) (fun ht => ?_)
  · (repeat first|refine zA ?_|refine zg ?_|refine zo rfl rfl trivial ?_|refine zn ?_|refine zr ?_)
    have e : heldR s c t = [] := heldTo_neg h.rc.ok ht _
    rw [e]
    exact ⟨_, rfl, none, 0, rfl, nS_nil⟩
  (repeat first|refine zA ?_|refine zB ?_|refine zg ?_|refine zo rfl rfl trivial ?_|refine zn ?_|refine zb ?_|refine zk ?_)
  refine r_loop (α := Nat × Option Addr × Nat) [0, 1, 5, 6] (fun x => [ptr g.p, I t, .slice x.2.1 (heldTo c t x.1).length x.2.2, I x.1]) (fun x W => NewS w 3 W x.2.1 (heldTo c t x.1).length x.2.2 ((heldTo c t x.1).map encI) ∧ x.1 ≤ s.lo.toNat) (fun x => s.lo.toNat - x.1) (0, none, 0) rfl ⟨nS_nil, by omega⟩ ?_
  rintro ⟨i, ad, cap⟩ e W ⟨hn, hi⟩
  dsimp only at hn hi ⊢
  have hW := h.kp0 hn.kp
  (repeat first|refine zA ?_|refine zB ?_|refine zg ?_|refine zo rfl rfl trivial ?_)
  refine o_load (v := I s.lo) rfl hW.hdr rfl rfl rfl rfl rfl ?_
  (repeat first|refine zo rfl rfl trivial ?_|refine zn ?_)
  refine r_if rfl (fun hc => ?_) (fun hc => ?_)
  · have hs := heldTo_succ c t i
    have hsl := heldTo_len c t i
    (repeat first|refine zA ?_|refine zC ?_|refine zg ?_|refine zo rfl rfl trivial ?_|refine zb ?_|refine zk ?_)
    refine o_load (v := ptr g.rg.p) rfl hW.hdr rfl rfl rfl rfl rfl ?_
    (repeat refine zo rfl rfl trivial ?_)
    refine o_call (rOwner_ret hW.rc i) rfl rfl rfl ?_
    rw [if_pos (show (0 : Int) ≤ i ∧ (i : Int) < s.lo from ⟨by omega, hc⟩), if_pos (show (0 : Int) ≤ i ∧ (i : Int) < s.lo from ⟨by omega, hc⟩)]
    rintro v w1 ⟨rfl, rfl⟩
    (repeat first|refine zA ?_|refine zg ?_|refine zo rfl rfl trivial ?_|refine zn ?_|refine zT rfl rfl rfl ?_)
    have hO : (c.O (i : Int)).getD (-1) = t ↔ c.O (i : Int) = some t := by
      cases hq : c.O (i : Int) with
      | none => simp; omega
      | some u => simp
    refine r_if (p := (c.O (i : Int)).getD (-1) = t) rfl (fun ho => ?_) (fun ho => ?_)
    · rw [if_pos (hO.1 ho)] at hs
      (repeat first|refine zg ?_|refine zo rfl rfl trivial ?_)
      refine o_buildSlice [I i] rfl (by simp [Value.oneCell']) rfl (by decide) (by decide) rfl rfl rfl rfl rfl ?_
      intro bm w3 hbm hu3
      have k3 : Kp [] w1 w3 := hu3.kp [] (.inr (by omega))
      refine o_append1 rfl rfl (hn.own.kp k3 (by simp)) hu3.blk rfl rfl rfl rfl (by simp only [maxLen]; omega) (by omega) rfl rfl ?_
      intro ad' cap' w4 ho4 k4 hn4
      (repeat first|refine zg ?_|refine zo rfl rfl (by first|exact trivial|(simp only[AllP];omega)) ?_|refine zn ?_)
      have e1 : (heldTo c t (i + 1)).length = (heldTo c t i).length + 1 := by rw [hs, List.length_append]; rfl
      refine ⟨(i + 1, ad', cap'), by dsimp only; rw [e1]; rfl, ⟨?_, by dsimp only; omega⟩, by dsimp only; omega⟩
      dsimp only
      rw [e1, hs, List.map_append]
      exact hn.push k3 ho4 k4 hn4
    · rw [if_neg (fun q => ho (hO.2 q)), List.append_nil] at hs
      (repeat first|refine zg ?_|refine zo rfl rfl (by first|exact trivial|(simp only[AllP];omega)) ?_|refine zn ?_|refine zk ?_)
      exact ⟨(i + 1, ad, cap), by dsimp only; rw [hs]; rfl, ⟨by dsimp only; rw [hs]; exact hn, by dsimp only; omega⟩, by dsimp only; omega⟩
  · have hil : i = s.lo.toNat := by omega
    subst hil
    (repeat first|refine zA ?_|refine zg ?_|refine zo rfl rfl trivial ?_|refine zn ?_|refine ze rfl ?_|refine zr ?_)
    exact ⟨_, rfl, ad, cap, rfl, hn⟩
/-- the accesses to a variable, with their places -/
def ofG (l : List AG) (n : Int) : List AG := l.filter fun x => decide (x.a.ev.o = n)
theorem ofG_map (l : List AG) (n : Int) : (ofG l n).map AG.a = ofR (l.map AG.a) n := by
  unfold ofG ofR
  rw [List.filter_map]; rfl
theorem ofG_take {l : List AG} {n : Int} {i : Nat} {x : AG} (h : l[i]? = some x) : ofG (l.take (i + 1)) n = ofG (l.take i) n ++ if x.a.ev.o = n then [x] else [] := by
  unfold ofG
  rw [List.take_add_one, h, Option.toList_some, List.filter_append]
  congr 1
  by_cases q : x.a.ev.o = n <;> simp [q]
theorem ofG_len (l : List AG) (n : Int) (i : Nat) : (ofG (l.take i) n).length ≤ i := by
  unfold ofG
  have := List.length_filter_le (fun x : AG => decide (x.a.ev.o = n)) (l.take i)
  rw [List.length_take] at this; omega
theorem agC_len (l : List AG) : (l.flatMap agC).length = l.length * 5 := by
  induction l with
  | nil => rfl
  | cons x r ih => rw [List.flatMap_cons, List.length_append, ih]; simp [agC]; omega
theorem agC_get {l : List AG} {i : Nat} {x : AG} (h : l[i]? = some x) : ∀ j v, (agC x)[j]? = some v → (l.flatMap agC)[i * 5 + j]? = some v := by
  induction l generalizing i with
  | nil => simp at h
  | cons y r ih =>
    intro j v hv
    have hj : j < 5 := by have := (List.getElem?_eq_some_iff.1 hv).1; simpa using this
    cases i with
    | zero =>
      simp at h; subst h
      rw [List.flatMap_cons, Nat.zero_mul, Nat.zero_add, List.getElem?_append_left (by simpa using hj)]; exact hv
    | succ i =>
      have ih := ih (by simpa using h) j v hv
      rw [List.flatMap_cons, List.getElem?_append_right (by simp; omega)]
      have e : (i + 1) * 5 + j - (agC y).length = i * 5 + j := by simp; omega
      rw [e]; exact ih
set_option maxHeartbeats 3200000 in
theorem rOf_ret (h : R23 w g s c A) (hn : c.n ≤ 2199023255552) (t : Int) : Ret Tryd.prog 48 [ptr g.p, I t] w (fun v w' => ∃ ad cap, v = .slice ad (ofG g.ag t).length cap ∧ OwnS w' 104 5 ad (ofG g.ag t).length cap ((ofG g.ag t).flatMap agC) ∧ Kp [] w w') := by
  have hal := h.al
  refine enter Tryd.call48 Tryd.func48 rfl rfl rfl rfl ?_
  (repeat first|refine zA ?_|refine zB ?_|refine zg ?_|refine zo rfl rfl trivial ?_|refine zn ?_|refine zb ?_|refine zk ?_|refine zf rfl ?_)
  refine r_loop (α := Nat × Option Addr × Nat) [0, 1, 5, 6] (fun x => [ptr g.p, I t, .slice x.2.1 (ofG (g.ag.take x.1) t).length x.2.2, I x.1]) (fun x W => OwnS W 104 5 x.2.1 (ofG (g.ag.take x.1) t).length x.2.2 ((ofG (g.ag.take x.1) t).flatMap agC) ∧ Kp [] w W ∧ (∀ b, b ∈ blkOf x.2.1 → w.heap.size ≤ b) ∧ x.1 ≤ g.ag.length) (fun x => g.ag.length - x.1) (0, none, 0) rfl ⟨ownS_nil _ _ _, Kp.refl _ _, by simp [blkOf], by omega⟩ ?_
  rintro ⟨i, ad, cap⟩ e W ⟨ho, kW, hw, hi⟩
  dsimp only at ho hw hi ⊢
  have hW := h.kp0 kW
  have hol := ofG_len g.ag t i
  (repeat first|refine zA ?_|refine zB ?_|refine zg ?_|refine zo rfl rfl trivial ?_)
  refine o_load (v := .slice g.aad g.ag.length g.acap) rfl hW.hdr rfl rfl rfl rfl rfl ?_
  (repeat first|refine zo rfl rfl trivial ?_|refine zn ?_)
  refine r_if rfl (fun hc => ?_) (fun hc => ?_)
  · have hlt : i < g.ag.length := by omega
    obtain ⟨x, hx⟩ : ∃ x, g.ag[i]? = some x := ⟨_, List.getElem?_eq_getElem hlt⟩
    have hs := ofG_take (n := t) hx
    obtain ⟨rb, off, hrow, _, hcell⟩ := hW.own.readN.at_ (by rw [agC_len]; omega)
    have hcx := fun j v hv => hcell _ v (agC_get hx j v hv)
    have hh := hW.hdr
    simp only [k23C] at hh
    rw [hrow] at hh
    (repeat first|refine zA ?_|refine zC ?_|refine zg ?_|refine zo rfl rfl trivial ?_|refine zb ?_|refine zk ?_)
    refine o_load (v := .slice (some ⟨rb, off, none⟩) g.ag.length g.acap) rfl hh rfl rfl rfl rfl rfl ?_
    (repeat refine zo rfl rfl (by first|exact trivial|(simp only[AllP];omega)) ?_)
    refine o_loadc (v := I x.a.ev.o) rfl (by have := hcx 3 _ rfl; rw [← Nat.add_assoc] at this; exact this) rfl rfl rfl rfl ?_
    (repeat first|refine zo rfl rfl trivial ?_|refine zn ?_)
    refine r_if (p := x.a.ev.o = t) rfl (fun he => ?_) (fun he => ?_)
    · rw [if_pos he] at hs
      (repeat first|refine zg ?_|refine zo rfl rfl trivial ?_)
      refine o_load (v := .slice (some ⟨rb, off, none⟩) g.ag.length g.acap) rfl hh rfl rfl rfl rfl rfl ?_
      (repeat refine zo rfl rfl (by first|exact trivial|(simp only[AllP];omega)) ?_)
      refine o_loadA (vs := agC x) rfl (fun j v hv => by have := hcx j v hv; rw [← Nat.add_assoc] at this; exact this) rfl rfl rfl rfl rfl rfl ?_
      refine o_buildSliceN (agC x) rfl rfl rfl (by kernel_rfl) rfl rfl rfl rfl ?_
      intro bm w3 hbm hu3
      have k3 : Kp [] W w3 := hu3.kp [] (.inr (by omega))
      refine o_append (agC x) rfl rfl (ho.kp k3 (by simp)) (fun j v hv => by rw [addr_lit, Nat.zero_add]; exact hu3.blk.cell hv) rfl rfl rfl (by omega) rfl (by omega) (by simp [Value.oneCell']) (by simp only [maxLen]; omega) (by omega) rfl rfl ?_
      intro ad' cap' w4 ho4 k4 hn4
      (repeat first|refine zg ?_|refine zo rfl rfl (by first|exact trivial|(simp only[AllP];omega)) ?_|refine zn ?_)
      have e1 : (ofG (g.ag.take (i + 1)) t).length = (ofG (g.ag.take i) t).length + 1 := by rw [hs, List.length_append]; rfl
      refine ⟨(i + 1, ad', cap'), by dsimp only; rw [e1]; rfl, ⟨?_, (kW.trans k3).since k4 hw, fun b hb => ?_, by dsimp only; omega⟩, by dsimp only; omega⟩
      · dsimp only
        rw [e1, hs, List.flatMap_append, List.flatMap_singleton]
        exact ho4
      · rcases hn4 b hb with q | q
        · exact hw b q
        · have := kW.size; have := k3.size; omega
    · rw [if_neg he, List.append_nil] at hs
      (repeat first|refine zg ?_|refine zo rfl rfl (by first|exact trivial|(simp only[AllP];omega)) ?_|refine zn ?_|refine zk ?_)
      exact ⟨(i + 1, ad, cap), by dsimp only; rw [hs]; rfl, ⟨by dsimp only; rw [hs]; exact ho, kW, hw, by dsimp only; omega⟩, by dsimp only; omega⟩
  · have hil : i = g.ag.length := by omega
    subst hil
    rw [List.take_length] at ho ⊢
    (repeat first|refine zA ?_|refine zg ?_|refine zo rfl rfl trivial ?_|refine zn ?_|refine ze rfl ?_|refine zr ?_)
    exact ⟨_, rfl, ad, cap, rfl, ho, kW⟩
end
end Go.Vc
