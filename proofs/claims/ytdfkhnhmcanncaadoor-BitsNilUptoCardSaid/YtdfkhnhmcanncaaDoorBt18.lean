/- bits: families of sets that share nothing; BitsAlgebra. -/
import Derived.Test.YtdfkhnhmcanncaaDoorBt17
import Derived.Test.YtdfkhnhmcanncaaDoorBt16
namespace Go.Vc
open Go Go.Proofs
set_option maxRecDepth 10000
variable {w : World}

/-- a set's place and words -/
structure S4 where
  p : Nat
  ws : List Nat
  ad : Option Addr
  cap : Nat
def S4.blks (s : S4) : List Nat := s.p :: blkOf s.ad
def S4.At (w : World) (s : S4) : Prop := SetAt w s.p s.ws s.ad s.cap
/-- sets that share nothing -/
structure Fam (w : World) (L : List S4) : Prop where
  all : ∀ s ∈ L, s.At w
  apart : L.Pairwise fun s t => ∀ b, b ∈ s.blks → b ∉ t.blks
theorem Fam.kp {w' : World} {L : List S4} (h : Fam w L) {S : List Nat} (hk : Kp S w w') (hd : ∀ s ∈ L, ∀ b, b ∈ s.blks → b ∉ S) : Fam w' L := ⟨fun s hs => (h.all s hs).kp hk (hd s hs), h.apart⟩
theorem Fam.kp0 {w' : World} {L : List S4} (h : Fam w L) (hk : Kp [] w w') : Fam w' L := h.kp hk (by simp)
theorem Fam.sm {w' : World} {L : List S4} (h : Fam w L) (hs : Sm w w') : Fam w' L := h.kp0 (hs.kp [])
theorem Fam.nil : Fam w [] := ⟨by simp, List.Pairwise.nil⟩
theorem Fam.new {w' : World} {L : List S4} (h : Fam w L) {p : Nat} {ws : List Nat} {ad : Option Addr} {cap : Nat} (k : NewSet w p w' ws ad cap) : Fam w' (L ++ [⟨p, ws, ad, cap⟩]) := by
  have h' := h.kp0 k.kp
  refine ⟨fun s hs => ?_, ?_⟩
  · rcases List.mem_append.1 hs with h1 | h1
    · exact h'.all s h1
    · simp at h1; subst h1; exact k.at_
  · rw [List.pairwise_append]
    refine ⟨h.apart, by simp, fun s hs t ht b hb hb2 => ?_⟩
    simp at ht; subst ht
    have h1 := (h.all s hs).lt b hb
    have h2 := k.new b hb2
    omega
theorem Fam.to {w' : World} {L1 L2 : List S4} {s : S4} {ws : List Nat} {ad : Option Addr} {cap : Nat} (h : Fam w (L1 ++ s :: L2)) (k : SetTo w s.p s.ad w' ws ad cap) : Fam w' (L1 ++ ⟨s.p, ws, ad, cap⟩ :: L2) := by
  have ha := h.apart
  rw [List.pairwise_append, List.pairwise_cons] at ha
  obtain ⟨a1, ⟨a2, a3⟩, a4⟩ := ha
  have sub : ∀ b, b ∈ (S4.blks ⟨s.p, ws, ad, cap⟩) → b ∈ s.blks ∨ w.heap.size ≤ b := fun b hb => by
    rcases List.mem_cons.1 hb with rfl | hb
    · exact .inl (by simp [S4.blks])
    · rcases k.new b hb with h1 | h1
      · exact .inl (by simp [S4.blks, h1])
      · exact .inr h1
  have lt : ∀ t ∈ L1 ++ s :: L2, ∀ b, b ∈ t.blks → b < w.heap.size := fun t ht b hb => (h.all t ht).lt b hb
  refine ⟨fun t ht => ?_, ?_⟩
  · rcases List.mem_append.1 ht with h1 | h1
    · exact (h.all t (by simp [h1])).kp k.kp (fun b hb hb2 => a4 t h1 s (by simp) b hb hb2)
    · rcases List.mem_cons.1 h1 with rfl | h1
      · exact k.at_
      · exact (h.all t (by simp [h1])).kp k.kp (fun b hb hb2 => a2 t h1 b hb2 hb)
  · rw [List.pairwise_append, List.pairwise_cons]
    refine ⟨a1, ⟨fun t ht b hb hb2 => ?_, a3⟩, fun t ht u hu b hb hb2 => ?_⟩
    · rcases sub b hb with h1 | h1
      · exact a2 t ht b h1 hb2
      · have := lt t (by simp [ht]) b hb2; omega
    · rcases List.mem_cons.1 hu with rfl | hu
      · rcases sub b hb2 with h1 | h1
        · exact a4 t ht s (by simp) b hb h1
        · have := lt t (by simp [ht]) b hb; omega
      · exact a4 t ht u (by simp [hu]) b hb hb2
theorem Fam.two {L : List S4} (h : Fam w L) {s t : S4} {i j : Nat} (hi : L[i]? = some s) (hj : L[j]? = some t) (hne : i ≠ j) : Apart s.p s.ad t.p t.ad := by
  have ha := h.apart
  intro b hb hb2
  obtain ⟨h1, e1⟩ := List.getElem?_eq_some_iff.1 hi
  obtain ⟨h2, e2⟩ := List.getElem?_eq_some_iff.1 hj
  rw [List.pairwise_iff_getElem] at ha
  rcases Nat.lt_or_gt_of_ne hne with hlt | hlt
  · exact ha i j h1 h2 hlt b (by rw [e1]; exact hb2) (by rw [e2]; exact hb)
  · exact ha j i h2 h1 hlt b (by rw [e2]; exact hb) (by rw [e1]; exact hb2)
theorem Fam.get {L : List S4} (h : Fam w L) {s : S4} (i : Nat) (hi : L[i]? = some s) : SetAt w s.p s.ws s.ad s.cap := h.all s (List.mem_of_getElem? hi)

set_option maxHeartbeats 4000000 in
theorem BitsAlgebra_ret (hT : TabW w) {ad1 ad2 : Option Addr} {l1 l2 : List Int} {c1 c2 : Nat} (h1 : ReadS w ad1 (l1.map I)) (h2 : ReadS w ad2 (l2.map I)) (hl1 : l1.length ≤ 1048576) (hl2 : l2.length ≤ 1048576)
    (hr1 : ∀ x ∈ l1, -9223372036854775808 ≤ x ∧ x ≤ 9223372036854775807) (hr2 : ∀ x ∈ l2, -9223372036854775808 ≤ x ∧ x ≤ 9223372036854775807) :
    Ret Tryd.prog 7 [.slice ad1 l1.length c1, .slice ad2 l2.length c2] w (fun v w' => v = .bool true ∧ Kp [] w w') := by
  refine enter Tryd.call7 Tryd.func7 rfl rfl rfl rfl ?_
  (repeat first|refine zA ?_|refine zB ?_|refine zC ?_|refine zD ?_|refine zE ?_|refine zg ?_|refine zo rfl rfl (by first|exact trivial|(simp only[AllP];omega)|(simp(discharger:=omega)only[AllP,cA,cB];omega)|(simp only[AllP,cC,cD,cE,cF,cG];omega)) ?_|refine zn ?_|refine zb ?_|refine ze rfl ?_|refine zr ?_|refine zk ?_|refine zT rfl rfl rfl ?_|refine zU rfl rfl rfl ?_|refine zV rfl rfl rfl ?_|refine zf rfl ?_|refine zt rfl ?_)
  refine o_call (lives_ret hT) rfl rfl rfl ?_
  rintro v w1 ⟨rfl, k1⟩
  have hT1 := hT.kp k1 (by simp)
  have hnl1 : (nearL l1).length = l1.length := by simp [nearL]
  have hnl2 : (nearL l2).length = l2.length := by simp [nearL]
  (repeat first|refine zA ?_|refine zB ?_|refine zC ?_|refine zD ?_|refine zE ?_|refine zg ?_|refine zo rfl rfl (by first|exact trivial|(simp only[AllP];omega)|(simp(discharger:=omega)only[AllP,cA,cB];omega)|(simp only[AllP,cC,cD,cE,cF,cG];omega)) ?_|refine zn ?_|refine zb ?_|refine ze rfl ?_|refine zr ?_|refine zk ?_|refine zT rfl rfl rfl ?_|refine zU rfl rfl rfl ?_|refine zV rfl rfl rfl ?_|refine zf rfl ?_|refine zt rfl ?_)
  refine o_call (near_ret (h1.kp k1 (by simp)) hl1 hr1) rfl rfl rfl ?_
  rintro v w2 ⟨adn, capn, rfl, hnear⟩
  have hT2 := hT1.kp hnear.kp (by simp)
  refine o_call (New_ret hT2 hnear.read (by omega)) rfl rfl rfl ?_
  rintro v w3 (⟨_, pa, ada, capa, rfl, hsa⟩ | ⟨hbad, _⟩)
  rotate_left
  · rw [near_ok] at hbad; cases hbad
  have hcount := elems_newW_le (nearL l1) (near_ok l1)
  have htra := tr_newW (nearL l1) [] (WOk.zeros 0) tr_nil
  generalize newW (nearL l1) [] = ws at hsa hcount htra
  have k3 := (k1.trans hnear.kp).trans hsa.kp
  have hT3 := hT.kp k3 (by simp)
  (repeat first|refine zA ?_|refine zB ?_|refine zC ?_|refine zD ?_|refine zE ?_|refine zg ?_|refine zo rfl rfl (by first|exact trivial|(simp only[AllP];omega)|(simp(discharger:=omega)only[AllP,cA,cB];omega)|(simp only[AllP,cC,cD,cE,cF,cG];omega)) ?_|refine zn ?_|refine zb ?_|refine ze rfl ?_|refine zr ?_|refine zk ?_|refine zT rfl rfl rfl ?_|refine zU rfl rfl rfl ?_|refine zV rfl rfl rfl ?_|refine zf rfl ?_|refine zt rfl ?_)
  refine o_call (near_ret (h2.kp k3 (by simp)) hl2 hr2) rfl rfl rfl ?_
  rintro v w4 ⟨adm, capm, rfl, hnear2⟩
  have hT4 := hT3.kp hnear2.kp (by simp)
  refine o_call (New_ret hT4 hnear2.read (by omega)) rfl rfl rfl ?_
  rintro v w5 (⟨_, pb, adb, capb, rfl, hsb⟩ | ⟨hbad, _⟩)
  rotate_left
  · rw [near_ok] at hbad; cases hbad
  have htrb := tr_newW (nearL l2) [] (WOk.zeros 0) tr_nil
  generalize newW (nearL l2) [] = vs at hsb htrb
  have F5 : Fam w5 [⟨pa, ws, ada, capa⟩, ⟨pb, vs, adb, capb⟩] := ((Fam.nil.new hsa).kp0 hnear2.kp).new hsb
  have k5 := (k3.trans hnear2.kp).trans hsb.kp
  have hT5 := hT.kp k5 (by simp)
  have hla := hsa.at_.len
  have hlb := hsb.at_.len
  (repeat first|refine zA ?_|refine zB ?_|refine zC ?_|refine zD ?_|refine zE ?_|refine zg ?_|refine zo rfl rfl (by first|exact trivial|(simp only[AllP];omega)|(simp(discharger:=omega)only[AllP,cA,cB];omega)|(simp only[AllP,cC,cD,cE,cF,cG];omega)) ?_|refine zn ?_|refine zb ?_|refine ze rfl ?_|refine zr ?_|refine zk ?_|refine zT rfl rfl rfl ?_|refine zU rfl rfl rfl ?_|refine zV rfl rfl rfl ?_|refine zf rfl ?_|refine zt rfl ?_)
  refine o_call (Copy_ret hT5 (F5.get 0 rfl)) rfl rfl rfl ?_
  rintro v w6 ⟨pj, adj, capj, rfl, hsj⟩
  have F6 := F5.new hsj
  have k6 := k5.trans hsj.kp
  have hT6 := hT.kp k6 (by simp)
  (repeat first|refine zA ?_|refine zB ?_|refine zC ?_|refine zD ?_|refine zE ?_|refine zg ?_|refine zo rfl rfl (by first|exact trivial|(simp only[AllP];omega)|(simp(discharger:=omega)only[AllP,cA,cB];omega)|(simp only[AllP,cC,cD,cE,cF,cG];omega)) ?_|refine zn ?_|refine zb ?_|refine ze rfl ?_|refine zr ?_|refine zk ?_|refine zT rfl rfl rfl ?_|refine zU rfl rfl rfl ?_|refine zV rfl rfl rfl ?_|refine zf rfl ?_|refine zt rfl ?_)
  refine o_call (Copy_ret hT6 (F6.get 0 rfl)) rfl rfl rfl ?_
  rintro v w7 ⟨pk, adk, capk, rfl, hsk⟩
  have F7 := F6.new hsk
  have k7 := k6.trans hsk.kp
  have hT7 := hT.kp k7 (by simp)
  (repeat first|refine zA ?_|refine zB ?_|refine zC ?_|refine zD ?_|refine zE ?_|refine zg ?_|refine zo rfl rfl (by first|exact trivial|(simp only[AllP];omega)|(simp(discharger:=omega)only[AllP,cA,cB];omega)|(simp only[AllP,cC,cD,cE,cF,cG];omega)) ?_|refine zn ?_|refine zb ?_|refine ze rfl ?_|refine zr ?_|refine zk ?_|refine zT rfl rfl rfl ?_|refine zU rfl rfl rfl ?_|refine zV rfl rfl rfl ?_|refine zf rfl ?_|refine zt rfl ?_)
  refine o_call (Copy_ret hT7 (F7.get 0 rfl)) rfl rfl rfl ?_
  rintro v w8 ⟨pd, add, capd, rfl, hsd⟩
  have F8 := F7.new hsd
  have k8 := k7.trans hsd.kp
  have hT8 := hT.kp k8 (by simp)
  (repeat first|refine zA ?_|refine zB ?_|refine zC ?_|refine zD ?_|refine zE ?_|refine zg ?_|refine zo rfl rfl (by first|exact trivial|(simp only[AllP];omega)|(simp(discharger:=omega)only[AllP,cA,cB];omega)|(simp only[AllP,cC,cD,cE,cF,cG];omega)) ?_|refine zn ?_|refine zb ?_|refine ze rfl ?_|refine zr ?_|refine zk ?_|refine zT rfl rfl rfl ?_|refine zU rfl rfl rfl ?_|refine zV rfl rfl rfl ?_|refine zf rfl ?_|refine zt rfl ?_)
  refine o_call (Copy_ret hT8 (F8.get 0 rfl)) rfl rfl rfl ?_
  rintro v w9 ⟨pt, adt, capt, rfl, hst⟩
  have F9 := F8.new hst
  have k9 := k8.trans hst.kp
  have hT9 := hT.kp k9 (by simp)
  have new5 : ∀ q b, (∃ s : S4, s.p = q ∧ b ∈ s.blks ∧ (∀ b, b ∈ s.blks → w5.heap.size ≤ b)) → w5.heap.size ≤ b := fun q b ⟨s, _, h1, h2⟩ => h2 b h1
  have hs56 := hsj.kp.size
  have hs67 := hsk.kp.size
  have hs78 := hsd.kp.size
  have hs89 := hst.kp.size
  have hsz := k5.size
  (repeat first|refine zA ?_|refine zB ?_|refine zC ?_|refine zD ?_|refine zE ?_|refine zg ?_|refine zo rfl rfl (by first|exact trivial|(simp only[AllP];omega)|(simp(discharger:=omega)only[AllP,cA,cB];omega)|(simp only[AllP,cC,cD,cE,cF,cG];omega)) ?_|refine zn ?_|refine zb ?_|refine ze rfl ?_|refine zr ?_|refine zk ?_|refine zT rfl rfl rfl ?_|refine zU rfl rfl rfl ?_|refine zV rfl rfl rfl ?_|refine zf rfl ?_|refine zt rfl ?_)
  refine o_buildSlice [ptr pb] rfl (by simp [Value.oneCell']) rfl (by decide) (by decide) rfl rfl rfl rfl rfl ?_
  intro b10 w10 hb10 hu10
  have k10 : Kp [] w9 w10 := hu10.kp [] (.inr (by omega))
  have F10 := F9.kp0 k10
  have hT10 := hT9.kp k10 (by simp)
  have hpjb : pb ≠ pj := fun e => by
    have := F10.two (i := 2) (j := 1) rfl rfl (by decide)
    exact this pb (by simp) (by simp [e])
  refine o_call (Join_ret (qs := [pb]) hT10 (F10.get 2 rfl) (ReadS.blk hu10.blk) ?_ (by simp) (fun _ => vs) ?_) rfl rfl rfl ?_
  · intro b hb hb2
    simp [blkOf] at hb
    subst hb
    have := (F9.get 2 rfl).lt b hb2; omega
  · intro q hq
    simp at hq; subst hq
    exact ⟨.inr ⟨_, _, F10.get 1 rfl, F10.two (i := 2) (j := 1) rfl rfl (by decide)⟩⟩
  rintro v w11 ⟨rfl, adj', capj', htoj⟩
  have hfold : [pb].foldl (joinStep pj (fun _ => vs)) (ws, false) = (joinW ws vs, moreN (growW ws vs.length) vs vs.length) := by
    simp [joinStep, hpjb]
  rw [hfold] at htoj ⊢
  dsimp only at htoj ⊢
  have F11 := Fam.to (L1 := [_, _]) (L2 := [_, _, _]) F10 htoj
  have hT11 := SetTo.tab hT10 (F10.get 2 rfl) htoj
  have k11 : Kp [] w w11 := (k9.trans k10).since htoj.kp (fun b hb => by have := hsj.new b hb; omega)
  (repeat first|refine zA ?_|refine zB ?_|refine zC ?_|refine zD ?_|refine zE ?_|refine zg ?_|refine zo rfl rfl (by first|exact trivial|(simp only[AllP];omega)|(simp(discharger:=omega)only[AllP,cA,cB];omega)|(simp only[AllP,cC,cD,cE,cF,cG];omega)) ?_|refine zn ?_|refine zb ?_|refine ze rfl ?_|refine zr ?_|refine zk ?_|refine zT rfl rfl rfl ?_|refine zU rfl rfl rfl ?_|refine zV rfl rfl rfl ?_|refine zf rfl ?_|refine zt rfl ?_)
  refine o_call (Keep_ret (F11.get 3 rfl) (F11.get 1 rfl) (F11.two (i := 3) (j := 1) rfl rfl (by decide))) rfl rfl rfl ?_
  rintro v w12 ⟨rfl, htok⟩
  have F12 := Fam.to (L1 := [_, _, _]) (L2 := [_, _]) F11 htok
  have hT12 := SetTo.tab hT11 (F11.get 3 rfl) htok
  have k12 : Kp [] w w12 := k11.since htok.kp (fun b hb => by have := hsk.new b hb; omega)
  (repeat first|refine zA ?_|refine zB ?_|refine zC ?_|refine zD ?_|refine zE ?_|refine zg ?_|refine zo rfl rfl (by first|exact trivial|(simp only[AllP];omega)|(simp(discharger:=omega)only[AllP,cA,cB];omega)|(simp only[AllP,cC,cD,cE,cF,cG];omega)) ?_|refine zn ?_|refine zb ?_|refine ze rfl ?_|refine zr ?_|refine zk ?_|refine zT rfl rfl rfl ?_|refine zU rfl rfl rfl ?_|refine zV rfl rfl rfl ?_|refine zf rfl ?_|refine zt rfl ?_)
  refine o_call (Drop_ret (F12.get 4 rfl) (F12.get 1 rfl) (F12.two (i := 4) (j := 1) rfl rfl (by decide))) rfl rfl rfl ?_
  rintro v w13 ⟨rfl, htod⟩
  have F13 := Fam.to (L1 := [_, _, _, _]) (L2 := [_]) F12 htod
  have hT13 := SetTo.tab hT12 (F12.get 4 rfl) htod
  have k13 : Kp [] w w13 := k12.since htod.kp (fun b hb => by have := hsd.new b hb; omega)
  (repeat first|refine zA ?_|refine zB ?_|refine zC ?_|refine zD ?_|refine zE ?_|refine zg ?_|refine zo rfl rfl (by first|exact trivial|(simp only[AllP];omega)|(simp(discharger:=omega)only[AllP,cA,cB];omega)|(simp only[AllP,cC,cD,cE,cF,cG];omega)) ?_|refine zn ?_|refine zb ?_|refine ze rfl ?_|refine zr ?_|refine zk ?_|refine zT rfl rfl rfl ?_|refine zU rfl rfl rfl ?_|refine zV rfl rfl rfl ?_|refine zf rfl ?_|refine zt rfl ?_)
  refine o_call (Turn_ret hT13 (F13.get 5 rfl) (F13.get 1 rfl) (F13.two (i := 5) (j := 1) rfl rfl (by decide))) rfl rfl rfl ?_
  rintro v w14 ⟨rfl, adt', capt', htot⟩
  have F14 := Fam.to (L1 := [_, _, _, _, _]) (L2 := []) F13 htot
  have hT14 := SetTo.tab hT13 (F13.get 5 rfl) htot
  have k14 : Kp [] w w14 := k13.since htot.kp (fun b hb => by have := hst.new b hb; omega)
  -- the law of words
  have oa := hsa.at_.ok
  have ob := hsb.at_.ok
  have oj := (F14.get 2 rfl).ok
  have ok := (F14.get 3 rfl).ok
  have od := (F14.get 4 rfl).ok
  have ot := (F14.get 5 rfl).ok
  have lj := (F14.get 2 rfl).len
  have lk := (F14.get 3 rfl).len
  have ld := (F14.get 4 rfl).len
  have lt := (F14.get 5 rfl).len
  dsimp only at oj ok od ot lj lk ld lt
  obtain ⟨N, hN⟩ : ∃ N, N = 1048576 := ⟨_, rfl⟩
  have na := elems_len_of (N := N) (ws := ws) (bit ws) (by omega) (fun j => rfl)
  have nb := elems_len_of (N := N) (ws := vs) (bit vs) (by omega) (fun j => rfl)
  have nj := elems_len_of (N := N) _ (by omega) (bit_joinW ws vs)
  have nk := elems_len_of (N := N) _ (by omega) (bit_keepW ws vs)
  have nd := elems_len_of (N := N) (ws := dropW ws vs) _ (by omega) (bit_dropW ob)
  have nt := elems_len_of (N := N) _ (by omega) (bit_turnW ws vs)
  have q1 := count_or (List.range N) (bit ws) (bit vs)
  have q2 := count_drop (List.range N) (bit ws) (bit vs)
  have q3 := count_turn (List.range N) (bit ws) (bit vs)
  rw [← nj, ← nk, ← na, ← nb] at q1
  rw [← nd, ← nk, ← na] at q2
  rw [← nt, ← nk, ← nj] at q3
  have ba := elems_len ws
  have bb := elems_len vs
  have bj := elems_len (joinW ws vs)
  have bk := elems_len (keepW ws vs)
  have bd := elems_len (dropW ws vs)
  have bt := elems_len (turnW ws vs)
  have wab := withinW_iff oa ob htra.2
  have wba := withinW_iff ob oa htrb.2
  have waj : withinW ws (joinW ws vs) = true := (withinW_iff oa oj htra.2).2 fun j hj => by rw [bit_joinW, hj]; rfl
  have wbj : withinW vs (joinW ws vs) = true := (withinW_iff ob oj htrb.2).2 fun j hj => by rw [bit_joinW, hj, Bool.or_true]
  have wka : withinW (keepW ws vs) ws = true := (withinW_iff ok oa (tr_trim _)).2 fun j hj => by rw [bit_keepW, Bool.and_eq_true] at hj; exact hj.1
  have wkb : withinW (keepW ws vs) vs = true := (withinW_iff ok ob (tr_trim _)).2 fun j hj => by rw [bit_keepW, Bool.and_eq_true] at hj; exact hj.2
  have mdb : meetsW (dropW ws vs) vs = false := by
    cases hh : meetsW (dropW ws vs) vs with
    | false => rfl
    | true =>
      obtain ⟨j, h1, h2⟩ := (meetsW_iff od).1 hh
      rw [bit_dropW ob, h2] at h1; simp at h1
  have mtk : meetsW (turnW ws vs) (keepW ws vs) = false := by
    cases hh : meetsW (turnW ws vs) (keepW ws vs) with
    | false => rfl
    | true =>
      obtain ⟨j, h1, h2⟩ := (meetsW_iff ot).1 hh
      rw [bit_turnW] at h1
      rw [bit_keepW, Bool.and_eq_true] at h2
      rw [h2.1, h2.2] at h1; cases h1
  have mab : meetsW ws vs = decide (0 < ((elems (keepW ws vs)).length : Int)) := by
    rw [Bool.eq_iff_iff, decide_eq_true_eq, meetsW_iff oa]
    constructor
    · rintro ⟨j, h1, h2⟩
      have : j ∈ elems (keepW ws vs) := mem_elems.2 (by rw [bit_keepW, h1, h2]; rfl)
      have := List.length_pos_of_mem this; omega
    · intro h
      obtain ⟨j, hj⟩ := List.exists_mem_of_length_pos (by omega : 0 < (elems (keepW ws vs)).length)
      have := mem_elems.1 hj
      rw [bit_keepW, Bool.and_eq_true] at this
      exact ⟨j, this⟩
  have hmore : moreN (growW ws vs.length) vs vs.length = !withinW vs ws := by
    have hm := moreN_iff oa ob
    cases hw : withinW vs ws with
    | true =>
      cases hh : moreN (growW ws vs.length) vs vs.length with
      | false => rfl
      | true =>
        obtain ⟨j, h1, h2⟩ := hm.1 hh
        rw [wba.1 hw j h1] at h2; cases h2
    | false =>
      cases hh : moreN (growW ws vs.length) vs vs.length with
      | true => rfl
      | false =>
        exfalso
        have : withinW vs ws = true := wba.2 fun j hj => by
          cases hb : bit ws j with
          | true => rfl
          | false => rw [hm.2 ⟨j, hj, hb⟩] at hh; cases hh
        rw [this] at hw; cases hw
  have heq : decide (ws = vs) = (withinW ws vs && withinW vs ws) := by
    rw [Bool.eq_iff_iff, decide_eq_true_eq, Bool.and_eq_true, eq_iff_bits htra.2 htrb.2 oa ob, wab, wba]
    constructor
    · intro h; exact ⟨fun j hj => by rw [← h j]; exact hj, fun j hj => by rw [h j]; exact hj⟩
    · rintro ⟨h1, h2⟩ j
      cases ha : bit ws j with
      | true => rw [h1 j ha]
      | false =>
        cases hb : bit vs j with
        | false => rfl
        | true => rw [h2 j hb] at ha; cases ha
  have tback : turnW (turnW ws vs) vs = ws := tr_ext (tr_trim _) htra.2 (by
      intro x hx
      have : WOk (turnW (turnW ws vs) vs) := WOk.trim (by
        intro y hy
        unfold updW at hy
        obtain ⟨i, _, rfl⟩ := List.mem_map.1 hy
        rw [growW_getD]
        split
        · exact Nat.xor_lt_two_pow (ot.getD _) (ob.getD _)
        · exact ot.getD _)
      exact this x hx) oa (fun j => by rw [bit_turnW, bit_turnW]; cases bit ws j <;> cases bit vs j <;> rfl)
  rw [hmore]
  (repeat first|refine zA ?_|refine zB ?_|refine zC ?_|refine zD ?_|refine zE ?_|refine zg ?_|refine zo rfl rfl (by first|exact trivial|(simp only[AllP];omega)|(simp(discharger:=omega)only[AllP,cA,cB];omega)|(simp only[AllP,cC,cD,cE,cF,cG];omega)) ?_|refine zn ?_|refine zb ?_|refine ze rfl ?_|refine zr ?_|refine zk ?_|refine zT rfl rfl rfl ?_|refine zU rfl rfl rfl ?_|refine zV rfl rfl rfl ?_|refine zf rfl ?_|refine zt rfl ?_)
  refine o_call (Within_ret (F14.get 1 rfl) (F14.get 0 rfl)) rfl rfl rfl ?_
  rintro v w15 ⟨hv, hs15⟩
  dsimp only at hv
  subst hv
  refine o_cut (α := Unit) [0, 5, 7, 9, 10, 11, 12, 91] (fun _ => [.slice ad1 l1.length c1, ptr pa, ptr pb, ptr pj, ptr pk, ptr pd, ptr pt, .bool false]) (fun _ w => w = w15) ?_ ?_
  · cases withinW vs ws with
    | true =>
      (repeat first|refine zA ?_|refine zB ?_|refine zC ?_|refine zD ?_|refine zE ?_|refine zg ?_|refine zo rfl rfl (by first|exact trivial|(simp only[AllP];omega)|(simp(discharger:=omega)only[AllP,cA,cB];omega)|(simp only[AllP,cC,cD,cE,cF,cG];omega)) ?_|refine zn ?_|refine zb ?_|refine ze rfl ?_|refine zr ?_|refine zk ?_|refine zT rfl rfl rfl ?_|refine zU rfl rfl rfl ?_|refine zV rfl rfl rfl ?_|refine zf rfl ?_|refine zt rfl ?_)
      exact ⟨(), rfl, rfl⟩
    | false =>
      (repeat first|refine zA ?_|refine zB ?_|refine zC ?_|refine zD ?_|refine zE ?_|refine zg ?_|refine zo rfl rfl (by first|exact trivial|(simp only[AllP];omega)|(simp(discharger:=omega)only[AllP,cA,cB];omega)|(simp only[AllP,cC,cD,cE,cF,cG];omega)) ?_|refine zn ?_|refine zb ?_|refine ze rfl ?_|refine zr ?_|refine zk ?_|refine zT rfl rfl rfl ?_|refine zU rfl rfl rfl ?_|refine zV rfl rfl rfl ?_|refine zf rfl ?_|refine zt rfl ?_)
      exact ⟨(), rfl, rfl⟩
  rintro ⟨⟩ e w15' rfl
  have F15 := F14.sm hs15
  (repeat first|refine zA ?_|refine zB ?_|refine zC ?_|refine zD ?_|refine zE ?_|refine zg ?_|refine zo rfl rfl (by first|exact trivial|(simp only[AllP];omega)|(simp(discharger:=omega)only[AllP,cA,cB];omega)|(simp only[AllP,cC,cD,cE,cF,cG];omega)) ?_|refine zn ?_|refine zb ?_|refine ze rfl ?_|refine zr ?_|refine zk ?_|refine zT rfl rfl rfl ?_|refine zU rfl rfl rfl ?_|refine zV rfl rfl rfl ?_|refine zf rfl ?_|refine zt rfl ?_)
  refine o_call (Len_ret (F15.get 2 rfl)) rfl rfl rfl ?_
  rintro v w16 ⟨rfl, rfl⟩
  (repeat first|refine zA ?_|refine zB ?_|refine zC ?_|refine zD ?_|refine zE ?_|refine zg ?_|refine zo rfl rfl (by first|exact trivial|(simp only[AllP];omega)|(simp(discharger:=omega)only[AllP,cA,cB];omega)|(simp only[AllP,cC,cD,cE,cF,cG];omega)) ?_|refine zn ?_|refine zb ?_|refine ze rfl ?_|refine zr ?_|refine zk ?_|refine zT rfl rfl rfl ?_|refine zU rfl rfl rfl ?_|refine zV rfl rfl rfl ?_|refine zf rfl ?_|refine zt rfl ?_)
  refine o_call (Len_ret (F15.get 3 rfl)) rfl rfl rfl ?_
  rintro v w17 ⟨rfl, rfl⟩
  dsimp only
  (repeat first|refine zA ?_|refine zB ?_|refine zC ?_|refine zD ?_|refine zE ?_|refine zg ?_|refine zo rfl rfl (by first|exact trivial|(simp only[AllP];omega)|(simp(discharger:=omega)only[AllP,cA,cB];omega)|(simp only[AllP,cC,cD,cE,cF,cG];omega)) ?_|refine zn ?_|refine zb ?_|refine ze rfl ?_|refine zr ?_|refine zk ?_|refine zT rfl rfl rfl ?_|refine zU rfl rfl rfl ?_|refine zV rfl rfl rfl ?_|refine zf rfl ?_|refine zt rfl ?_)
  refine o_call (Len_ret (F15.get 0 rfl)) rfl rfl rfl ?_
  rintro v w16 ⟨rfl, rfl⟩
  (repeat first|refine zA ?_|refine zB ?_|refine zC ?_|refine zD ?_|refine zE ?_|refine zg ?_|refine zo rfl rfl (by first|exact trivial|(simp only[AllP];omega)|(simp(discharger:=omega)only[AllP,cA,cB];omega)|(simp only[AllP,cC,cD,cE,cF,cG];omega)) ?_|refine zn ?_|refine zb ?_|refine ze rfl ?_|refine zr ?_|refine zk ?_|refine zT rfl rfl rfl ?_|refine zU rfl rfl rfl ?_|refine zV rfl rfl rfl ?_|refine zf rfl ?_|refine zt rfl ?_)
  refine o_call (Len_ret (F15.get 1 rfl)) rfl rfl rfl ?_
  rintro v w17 ⟨rfl, rfl⟩
  dsimp only
  (repeat first|refine zA ?_|refine zB ?_|refine zC ?_|refine zD ?_|refine zE ?_|refine zg ?_|refine zo rfl rfl (by first|exact trivial|(simp only[AllP];omega)|(simp(discharger:=omega)only[AllP,cA,cB];omega)|(simp only[AllP,cC,cD,cE,cF,cG];omega)) ?_|refine zn ?_|refine zb ?_|refine ze rfl ?_|refine zr ?_|refine zk ?_|refine zT rfl rfl rfl ?_|refine zU rfl rfl rfl ?_|refine zV rfl rfl rfl ?_|refine zf rfl ?_|refine zt rfl ?_)
  refine o_is false 11 false rfl rfl rfl (by simp; omega) ?_
  (repeat first|refine zA ?_|refine zB ?_|refine zC ?_|refine zD ?_|refine zE ?_|refine zg ?_|refine zo rfl rfl (by first|exact trivial|(simp only[AllP];omega)|(simp(discharger:=omega)only[AllP,cA,cB];omega)|(simp only[AllP,cC,cD,cE,cF,cG];omega)) ?_|refine zn ?_|refine zb ?_|refine ze rfl ?_|refine zr ?_|refine zk ?_|refine zT rfl rfl rfl ?_|refine zU rfl rfl rfl ?_|refine zV rfl rfl rfl ?_|refine zf rfl ?_|refine zt rfl ?_)
  refine o_call (Len_ret (F15.get 4 rfl)) rfl rfl rfl ?_
  rintro v w16 ⟨rfl, rfl⟩
  dsimp only
  (repeat first|refine zA ?_|refine zB ?_|refine zC ?_|refine zD ?_|refine zE ?_|refine zg ?_|refine zo rfl rfl (by first|exact trivial|(simp only[AllP];omega)|(simp(discharger:=omega)only[AllP,cA,cB];omega)|(simp only[AllP,cC,cD,cE,cF,cG];omega)) ?_|refine zn ?_|refine zb ?_|refine ze rfl ?_|refine zr ?_|refine zk ?_|refine zT rfl rfl rfl ?_|refine zU rfl rfl rfl ?_|refine zV rfl rfl rfl ?_|refine zf rfl ?_|refine zt rfl ?_)
  refine o_call (Len_ret (F15.get 3 rfl)) rfl rfl rfl ?_
  rintro v w17 ⟨rfl, rfl⟩
  dsimp only
  (repeat first|refine zA ?_|refine zB ?_|refine zC ?_|refine zD ?_|refine zE ?_|refine zg ?_|refine zo rfl rfl (by first|exact trivial|(simp only[AllP];omega)|(simp(discharger:=omega)only[AllP,cA,cB];omega)|(simp only[AllP,cC,cD,cE,cF,cG];omega)) ?_|refine zn ?_|refine zb ?_|refine ze rfl ?_|refine zr ?_|refine zk ?_|refine zT rfl rfl rfl ?_|refine zU rfl rfl rfl ?_|refine zV rfl rfl rfl ?_|refine zf rfl ?_|refine zt rfl ?_)
  refine o_call (Len_ret (F15.get 0 rfl)) rfl rfl rfl ?_
  rintro v w16 ⟨rfl, rfl⟩
  dsimp only
  (repeat first|refine zA ?_|refine zB ?_|refine zC ?_|refine zD ?_|refine zE ?_|refine zg ?_|refine zo rfl rfl (by first|exact trivial|(simp only[AllP];omega)|(simp(discharger:=omega)only[AllP,cA,cB];omega)|(simp only[AllP,cC,cD,cE,cF,cG];omega)) ?_|refine zn ?_|refine zb ?_|refine ze rfl ?_|refine zr ?_|refine zk ?_|refine zT rfl rfl rfl ?_|refine zU rfl rfl rfl ?_|refine zV rfl rfl rfl ?_|refine zf rfl ?_|refine zt rfl ?_)
  refine o_is false 21 false rfl rfl rfl (by simp; omega) ?_
  (repeat first|refine zA ?_|refine zB ?_|refine zC ?_|refine zD ?_|refine zE ?_|refine zg ?_|refine zo rfl rfl (by first|exact trivial|(simp only[AllP];omega)|(simp(discharger:=omega)only[AllP,cA,cB];omega)|(simp only[AllP,cC,cD,cE,cF,cG];omega)) ?_|refine zn ?_|refine zb ?_|refine ze rfl ?_|refine zr ?_|refine zk ?_|refine zT rfl rfl rfl ?_|refine zU rfl rfl rfl ?_|refine zV rfl rfl rfl ?_|refine zf rfl ?_|refine zt rfl ?_)
  refine o_call (Len_ret (F15.get 5 rfl)) rfl rfl rfl ?_
  rintro v w17 ⟨rfl, rfl⟩
  dsimp only
  (repeat first|refine zA ?_|refine zB ?_|refine zC ?_|refine zD ?_|refine zE ?_|refine zg ?_|refine zo rfl rfl (by first|exact trivial|(simp only[AllP];omega)|(simp(discharger:=omega)only[AllP,cA,cB];omega)|(simp only[AllP,cC,cD,cE,cF,cG];omega)) ?_|refine zn ?_|refine zb ?_|refine ze rfl ?_|refine zr ?_|refine zk ?_|refine zT rfl rfl rfl ?_|refine zU rfl rfl rfl ?_|refine zV rfl rfl rfl ?_|refine zf rfl ?_|refine zt rfl ?_)
  refine o_call (Len_ret (F15.get 3 rfl)) rfl rfl rfl ?_
  rintro v w16 ⟨rfl, rfl⟩
  dsimp only
  (repeat first|refine zA ?_|refine zB ?_|refine zC ?_|refine zD ?_|refine zE ?_|refine zg ?_|refine zo rfl rfl (by first|exact trivial|(simp only[AllP];omega)|(simp(discharger:=omega)only[AllP,cA,cB];omega)|(simp only[AllP,cC,cD,cE,cF,cG];omega)) ?_|refine zn ?_|refine zb ?_|refine ze rfl ?_|refine zr ?_|refine zk ?_|refine zT rfl rfl rfl ?_|refine zU rfl rfl rfl ?_|refine zV rfl rfl rfl ?_|refine zf rfl ?_|refine zt rfl ?_)
  refine o_call (Len_ret (F15.get 2 rfl)) rfl rfl rfl ?_
  rintro v w17 ⟨rfl, rfl⟩
  dsimp only
  (repeat first|refine zA ?_|refine zB ?_|refine zC ?_|refine zD ?_|refine zE ?_|refine zg ?_|refine zo rfl rfl (by first|exact trivial|(simp only[AllP];omega)|(simp(discharger:=omega)only[AllP,cA,cB];omega)|(simp only[AllP,cC,cD,cE,cF,cG];omega)) ?_|refine zn ?_|refine zb ?_|refine ze rfl ?_|refine zr ?_|refine zk ?_|refine zT rfl rfl rfl ?_|refine zU rfl rfl rfl ?_|refine zV rfl rfl rfl ?_|refine zf rfl ?_|refine zt rfl ?_)
  refine r_no rfl (by simp; omega) ?_
  (repeat first|refine zA ?_|refine zB ?_|refine zC ?_|refine zD ?_|refine zE ?_|refine zg ?_|refine zo rfl rfl (by first|exact trivial|(simp only[AllP];omega)|(simp(discharger:=omega)only[AllP,cA,cB];omega)|(simp only[AllP,cC,cD,cE,cF,cG];omega)) ?_|refine zn ?_|refine zb ?_|refine ze rfl ?_|refine zr ?_|refine zk ?_|refine zT rfl rfl rfl ?_|refine zU rfl rfl rfl ?_|refine zV rfl rfl rfl ?_|refine zf rfl ?_|refine zt rfl ?_)
  refine o_call (Within_ret (F15.get 0 rfl) (F15.get 2 rfl)) rfl rfl rfl ?_
  rintro v wx ⟨hv, hsx⟩
  dsimp only at hv
  rw [waj] at hv
  subst hv
  have F15 := F15.sm hsx
  have hs15 := hs15.trans hsx
  clear hsx
  (repeat first|refine zA ?_|refine zB ?_|refine zC ?_|refine zD ?_|refine zE ?_|refine zg ?_|refine zo rfl rfl (by first|exact trivial|(simp only[AllP];omega)|(simp(discharger:=omega)only[AllP,cA,cB];omega)|(simp only[AllP,cC,cD,cE,cF,cG];omega)) ?_|refine zn ?_|refine zb ?_|refine ze rfl ?_|refine zr ?_|refine zk ?_|refine zT rfl rfl rfl ?_|refine zU rfl rfl rfl ?_|refine zV rfl rfl rfl ?_|refine zf rfl ?_|refine zt rfl ?_)
  refine o_call (Within_ret (F15.get 1 rfl) (F15.get 2 rfl)) rfl rfl rfl ?_
  rintro v wx ⟨hv, hsx⟩
  dsimp only at hv
  rw [wbj] at hv
  subst hv
  have F15 := F15.sm hsx
  have hs15 := hs15.trans hsx
  clear hsx
  (repeat first|refine zA ?_|refine zB ?_|refine zC ?_|refine zD ?_|refine zE ?_|refine zg ?_|refine zo rfl rfl (by first|exact trivial|(simp only[AllP];omega)|(simp(discharger:=omega)only[AllP,cA,cB];omega)|(simp only[AllP,cC,cD,cE,cF,cG];omega)) ?_|refine zn ?_|refine zb ?_|refine ze rfl ?_|refine zr ?_|refine zk ?_|refine zT rfl rfl rfl ?_|refine zU rfl rfl rfl ?_|refine zV rfl rfl rfl ?_|refine zf rfl ?_|refine zt rfl ?_)
  refine o_call (Within_ret (F15.get 3 rfl) (F15.get 0 rfl)) rfl rfl rfl ?_
  rintro v wx ⟨hv, hsx⟩
  dsimp only at hv
  rw [wka] at hv
  subst hv
  have F15 := F15.sm hsx
  have hs15 := hs15.trans hsx
  clear hsx
  (repeat first|refine zA ?_|refine zB ?_|refine zC ?_|refine zD ?_|refine zE ?_|refine zg ?_|refine zo rfl rfl (by first|exact trivial|(simp only[AllP];omega)|(simp(discharger:=omega)only[AllP,cA,cB];omega)|(simp only[AllP,cC,cD,cE,cF,cG];omega)) ?_|refine zn ?_|refine zb ?_|refine ze rfl ?_|refine zr ?_|refine zk ?_|refine zT rfl rfl rfl ?_|refine zU rfl rfl rfl ?_|refine zV rfl rfl rfl ?_|refine zf rfl ?_|refine zt rfl ?_)
  refine o_call (Within_ret (F15.get 3 rfl) (F15.get 1 rfl)) rfl rfl rfl ?_
  rintro v wx ⟨hv, hsx⟩
  dsimp only at hv
  rw [wkb] at hv
  subst hv
  have F15 := F15.sm hsx
  have hs15 := hs15.trans hsx
  clear hsx
  (repeat first|refine zA ?_|refine zB ?_|refine zC ?_|refine zD ?_|refine zE ?_|refine zg ?_|refine zo rfl rfl (by first|exact trivial|(simp only[AllP];omega)|(simp(discharger:=omega)only[AllP,cA,cB];omega)|(simp only[AllP,cC,cD,cE,cF,cG];omega)) ?_|refine zn ?_|refine zb ?_|refine ze rfl ?_|refine zr ?_|refine zk ?_|refine zT rfl rfl rfl ?_|refine zU rfl rfl rfl ?_|refine zV rfl rfl rfl ?_|refine zf rfl ?_|refine zt rfl ?_)
  refine o_call (Meets_ret (F15.get 4 rfl) (F15.get 1 rfl)) rfl rfl rfl ?_
  rintro v wx ⟨hv, hsx⟩
  dsimp only at hv
  rw [mdb] at hv
  subst hv
  have F15 := F15.sm hsx
  have hs15 := hs15.trans hsx
  clear hsx
  (repeat first|refine zA ?_|refine zB ?_|refine zC ?_|refine zD ?_|refine zE ?_|refine zg ?_|refine zo rfl rfl (by first|exact trivial|(simp only[AllP];omega)|(simp(discharger:=omega)only[AllP,cA,cB];omega)|(simp only[AllP,cC,cD,cE,cF,cG];omega)) ?_|refine zn ?_|refine zb ?_|refine ze rfl ?_|refine zr ?_|refine zk ?_|refine zT rfl rfl rfl ?_|refine zU rfl rfl rfl ?_|refine zV rfl rfl rfl ?_|refine zf rfl ?_|refine zt rfl ?_)
  refine o_call (Meets_ret (F15.get 5 rfl) (F15.get 3 rfl)) rfl rfl rfl ?_
  rintro v wx ⟨hv, hsx⟩
  dsimp only at hv
  rw [mtk] at hv
  subst hv
  have F15 := F15.sm hsx
  have hs15 := hs15.trans hsx
  clear hsx
  (repeat first|refine zA ?_|refine zB ?_|refine zC ?_|refine zD ?_|refine zE ?_|refine zg ?_|refine zo rfl rfl (by first|exact trivial|(simp only[AllP];omega)|(simp(discharger:=omega)only[AllP,cA,cB];omega)|(simp only[AllP,cC,cD,cE,cF,cG];omega)) ?_|refine zn ?_|refine zb ?_|refine ze rfl ?_|refine zr ?_|refine zk ?_|refine zT rfl rfl rfl ?_|refine zU rfl rfl rfl ?_|refine zV rfl rfl rfl ?_|refine zf rfl ?_|refine zt rfl ?_)
  refine o_call (Meets_ret (F15.get 0 rfl) (F15.get 1 rfl)) rfl rfl rfl ?_
  rintro v wx ⟨hv, hsx⟩
  dsimp only at hv
  rw [mab] at hv
  subst hv
  have F15 := F15.sm hsx
  have hs15 := hs15.trans hsx
  clear hsx
  (repeat first|refine zA ?_|refine zB ?_|refine zC ?_|refine zD ?_|refine zE ?_|refine zg ?_|refine zo rfl rfl (by first|exact trivial|(simp only[AllP];omega)|(simp(discharger:=omega)only[AllP,cA,cB];omega)|(simp only[AllP,cC,cD,cE,cF,cG];omega)) ?_|refine zn ?_|refine zb ?_|refine ze rfl ?_|refine zr ?_|refine zk ?_|refine zT rfl rfl rfl ?_|refine zU rfl rfl rfl ?_|refine zV rfl rfl rfl ?_|refine zf rfl ?_|refine zt rfl ?_)
  refine o_call (Len_ret (F15.get 3 rfl)) rfl rfl rfl ?_
  rintro v wq ⟨rfl, rfl⟩
  dsimp only
  (repeat first|refine zA ?_|refine zB ?_|refine zC ?_|refine zD ?_|refine zE ?_|refine zg ?_|refine zo rfl rfl (by first|exact trivial|(simp only[AllP];omega)|(simp(discharger:=omega)only[AllP,cA,cB];omega)|(simp only[AllP,cC,cD,cE,cF,cG];omega)) ?_|refine zn ?_|refine zb ?_|refine ze rfl ?_|refine zr ?_|refine zk ?_|refine zT rfl rfl rfl ?_|refine zU rfl rfl rfl ?_|refine zV rfl rfl rfl ?_|refine zf rfl ?_|refine zt rfl ?_)
  refine o_is false 41 false rfl rfl rfl (by simp) ?_
  (repeat first|refine zA ?_|refine zB ?_|refine zC ?_|refine zD ?_|refine zE ?_|refine zg ?_|refine zo rfl rfl (by first|exact trivial|(simp only[AllP];omega)|(simp(discharger:=omega)only[AllP,cA,cB];omega)|(simp only[AllP,cC,cD,cE,cF,cG];omega)) ?_|refine zn ?_|refine zb ?_|refine ze rfl ?_|refine zr ?_|refine zk ?_|refine zT rfl rfl rfl ?_|refine zU rfl rfl rfl ?_|refine zV rfl rfl rfl ?_|refine zf rfl ?_|refine zt rfl ?_)
  refine o_call (Equal_ret (F15.get 0 rfl) (F15.get 1 rfl)) rfl rfl rfl ?_
  rintro v wx ⟨hv, hsx⟩
  dsimp only at hv
  rw [heq] at hv
  subst hv
  have F15 := F15.sm hsx
  have hs15 := hs15.trans hsx
  clear hsx
  (repeat first|refine zA ?_|refine zB ?_|refine zC ?_|refine zD ?_|refine zE ?_|refine zg ?_|refine zo rfl rfl (by first|exact trivial|(simp only[AllP];omega)|(simp(discharger:=omega)only[AllP,cA,cB];omega)|(simp only[AllP,cC,cD,cE,cF,cG];omega)) ?_|refine zn ?_|refine zb ?_|refine ze rfl ?_|refine zr ?_|refine zk ?_|refine zT rfl rfl rfl ?_|refine zU rfl rfl rfl ?_|refine zV rfl rfl rfl ?_|refine zf rfl ?_|refine zt rfl ?_)
  refine o_call (Within_ret (F15.get 0 rfl) (F15.get 1 rfl)) rfl rfl rfl ?_
  rintro v wx ⟨hv, hsx⟩
  dsimp only at hv
  rw [(rfl : withinW ws vs = withinW ws vs)] at hv
  subst hv
  have F15 := F15.sm hsx
  have hs15 := hs15.trans hsx
  clear hsx
  (repeat first|refine zA ?_|refine zB ?_|refine zC ?_|refine zD ?_|refine zE ?_|refine zg ?_|refine zo rfl rfl (by first|exact trivial|(simp only[AllP];omega)|(simp(discharger:=omega)only[AllP,cA,cB];omega)|(simp only[AllP,cC,cD,cE,cF,cG];omega)) ?_|refine zn ?_|refine zb ?_|refine ze rfl ?_|refine zr ?_|refine zk ?_|refine zT rfl rfl rfl ?_|refine zU rfl rfl rfl ?_|refine zV rfl rfl rfl ?_|refine zf rfl ?_|refine zt rfl ?_)
  refine o_cut (α := Unit) [0, 5, 7, 12, 177] (fun _ => [.slice ad1 l1.length c1, ptr pa, ptr pb, ptr pt, .bool false]) (fun _ w => Sm w14 w) ?_ ?_
  · cases hW1 : withinW ws vs with
    | true =>
      (repeat first|refine zA ?_|refine zB ?_|refine zC ?_|refine zD ?_|refine zE ?_|refine zg ?_|refine zo rfl rfl (by first|exact trivial|(simp only[AllP];omega)|(simp(discharger:=omega)only[AllP,cA,cB];omega)|(simp only[AllP,cC,cD,cE,cF,cG];omega)) ?_|refine zn ?_|refine zb ?_|refine ze rfl ?_|refine zr ?_|refine zk ?_|refine zT rfl rfl rfl ?_|refine zU rfl rfl rfl ?_|refine zV rfl rfl rfl ?_|refine zf rfl ?_|refine zt rfl ?_)
      refine o_call (Within_ret (F15.get 1 rfl) (F15.get 0 rfl)) rfl rfl rfl ?_
      rintro v wx ⟨hv, hsx⟩
      dsimp only at hv
      subst hv
      cases hW2 : withinW vs ws with
      | true =>
        (repeat first|refine zA ?_|refine zB ?_|refine zC ?_|refine zD ?_|refine zE ?_|refine zg ?_|refine zo rfl rfl (by first|exact trivial|(simp only[AllP];omega)|(simp(discharger:=omega)only[AllP,cA,cB];omega)|(simp only[AllP,cC,cD,cE,cF,cG];omega)) ?_|refine zn ?_|refine zb ?_|refine ze rfl ?_|refine zr ?_|refine zk ?_|refine zT rfl rfl rfl ?_|refine zU rfl rfl rfl ?_|refine zV rfl rfl rfl ?_|refine zf rfl ?_|refine zt rfl ?_)
        exact ⟨(), rfl, hs15.trans hsx⟩
      | false =>
        (repeat first|refine zA ?_|refine zB ?_|refine zC ?_|refine zD ?_|refine zE ?_|refine zg ?_|refine zo rfl rfl (by first|exact trivial|(simp only[AllP];omega)|(simp(discharger:=omega)only[AllP,cA,cB];omega)|(simp only[AllP,cC,cD,cE,cF,cG];omega)) ?_|refine zn ?_|refine zb ?_|refine ze rfl ?_|refine zr ?_|refine zk ?_|refine zT rfl rfl rfl ?_|refine zU rfl rfl rfl ?_|refine zV rfl rfl rfl ?_|refine zf rfl ?_|refine zt rfl ?_)
        exact ⟨(), rfl, hs15.trans hsx⟩
    | false =>
      (repeat first|refine zA ?_|refine zB ?_|refine zC ?_|refine zD ?_|refine zE ?_|refine zg ?_|refine zo rfl rfl (by first|exact trivial|(simp only[AllP];omega)|(simp(discharger:=omega)only[AllP,cA,cB];omega)|(simp only[AllP,cC,cD,cE,cF,cG];omega)) ?_|refine zn ?_|refine zb ?_|refine ze rfl ?_|refine zr ?_|refine zk ?_|refine zT rfl rfl rfl ?_|refine zU rfl rfl rfl ?_|refine zV rfl rfl rfl ?_|refine zf rfl ?_|refine zt rfl ?_)
      exact ⟨(), rfl, hs15⟩
  rintro ⟨⟩ e w16 hs16
  have F16 := F14.sm hs16
  have hT16 := hT14.sm hs16
  have k16 := k14.trans (hs16.kp [])
  (repeat first|refine zA ?_|refine zB ?_|refine zC ?_|refine zD ?_|refine zE ?_|refine zg ?_|refine zo rfl rfl (by first|exact trivial|(simp only[AllP];omega)|(simp(discharger:=omega)only[AllP,cA,cB];omega)|(simp only[AllP,cC,cD,cE,cF,cG];omega)) ?_|refine zn ?_|refine zb ?_|refine ze rfl ?_|refine zr ?_|refine zk ?_|refine zT rfl rfl rfl ?_|refine zU rfl rfl rfl ?_|refine zV rfl rfl rfl ?_|refine zf rfl ?_|refine zt rfl ?_)
  refine o_call (Turn_ret hT16 (F16.get 5 rfl) (F16.get 1 rfl) (F16.two (i := 5) (j := 1) rfl rfl (by decide))) rfl rfl rfl ?_
  rintro v w17 ⟨rfl, adt2, capt2, htot2⟩
  dsimp only at htot2
  rw [tback] at htot2
  have F17 := Fam.to (L1 := [_, _, _, _, _]) (L2 := []) F16 htot2
  have k17 : Kp [] w w17 := k16.since htot2.kp (fun b hb => by
    rcases List.mem_cons.1 hb with rfl | hb
    · have := hst.new _ (List.mem_cons_self); omega
    · rcases htot.new b hb with h | h
      · have := hst.new b (List.mem_cons_of_mem _ h); omega
      · have := k13.size; omega)
  (repeat first|refine zA ?_|refine zB ?_|refine zC ?_|refine zD ?_|refine zE ?_|refine zg ?_|refine zo rfl rfl (by first|exact trivial|(simp only[AllP];omega)|(simp(discharger:=omega)only[AllP,cA,cB];omega)|(simp only[AllP,cC,cD,cE,cF,cG];omega)) ?_|refine zn ?_|refine zb ?_|refine ze rfl ?_|refine zr ?_|refine zk ?_|refine zT rfl rfl rfl ?_|refine zU rfl rfl rfl ?_|refine zV rfl rfl rfl ?_|refine zf rfl ?_|refine zt rfl ?_)
  refine o_call (Equal_ret (F17.get 5 rfl) (F17.get 0 rfl)) rfl rfl rfl ?_
  rintro v w18 ⟨hv, hs18⟩
  dsimp only at hv
  rw [decide_eq_true (rfl : ws = ws)] at hv
  subst hv
  have F18 := F17.sm hs18
  (repeat first|refine zA ?_|refine zB ?_|refine zC ?_|refine zD ?_|refine zE ?_|refine zg ?_|refine zo rfl rfl (by first|exact trivial|(simp only[AllP];omega)|(simp(discharger:=omega)only[AllP,cA,cB];omega)|(simp only[AllP,cC,cD,cE,cF,cG];omega)) ?_|refine zn ?_|refine zb ?_|refine ze rfl ?_|refine zr ?_|refine zk ?_|refine zT rfl rfl rfl ?_|refine zU rfl rfl rfl ?_|refine zV rfl rfl rfl ?_|refine zf rfl ?_|refine zt rfl ?_)
  refine o_call (Len_ret (F18.get 0 rfl)) rfl rfl rfl ?_
  rintro v w19 ⟨rfl, rfl⟩
  dsimp only
  (repeat first|refine zA ?_|refine zB ?_|refine zC ?_|refine zD ?_|refine zE ?_|refine zg ?_|refine zo rfl rfl (by first|exact trivial|(simp only[AllP];omega)|(simp(discharger:=omega)only[AllP,cA,cB];omega)|(simp only[AllP,cC,cD,cE,cF,cG];omega)) ?_|refine zn ?_|refine zb ?_|refine ze rfl ?_|refine zr ?_|refine zk ?_|refine zT rfl rfl rfl ?_|refine zU rfl rfl rfl ?_|refine zV rfl rfl rfl ?_|refine zf rfl ?_|refine zt rfl ?_)
  refine ⟨_, rfl, ?_, k17.trans (hs18.kp [])⟩
  rw [decide_eq_true (by omega)]
theorem bitsAlgebra_walk (hT : TabW w) {ad1 ad2 : Option Addr} {len1 cap1 len2 cap2 : Nat} {z1 z2 : List Int} (h1 : IsRow .i64 w ad1 len1 cap1 z1) (h2 : IsRow .i64 w ad2 len2 cap2 z2) (hb1 : z1.length ≤ 1048576) (hb2 : z2.length ≤ 1048576) :
    Calls Tryd.prog 7 #[.slice ad1 len1 cap1, .slice ad2 len2 cap2] w (fun e w' => e = .returned (.bool true) ∧ RowKit.Below w.heap.size w w') := by
  obtain ⟨a1, a2, a3⟩ := h1.ints
  obtain ⟨b1, b2, b3⟩ := h2.ints
  have := BitsAlgebra_ret hT (c1 := cap1) (c2 := cap2) a1 b1 (by simp; omega) (by simp; omega) a3 b3
  rw [a2, b2] at this
  exact this.calls
end Go.Vc
