/- Parts of a proof. -/
import Derived.Test.YtkgngbpkiklckaaGreatDoorQClQExact21
set_option maxHeartbeats 12800000
namespace Go.Vc
open Go Go.Proofs
set_option maxRecDepth 20000
section
variable {w : World}
abbrev shC (s : Shp) (pad : Option Addr) (cap : Nat) : List Value := [I s.th, I s.va, I s.vo, I s.lo, .slice pad s.pa.length cap]
def Jj5 (x : Int) : Bool := decide (1 ≤ x ∧ x ≤ 65535)
def Jf2 (s : Shp) : Bool := decide ((1 ≤ s.th ∧ s.th ≤ 65535) ∧ (0 ≤ s.va ∧ s.va ≤ 4096) ∧ (0 ≤ s.vo ∧ s.vo ≤ 4096) ∧ (0 ≤ s.lo ∧ s.lo ≤ 4096) ∧ s.pa.length ≤ 4096) && s.pa.all Jj5
theorem Jh5 (s : Shp) : Jf2 s = true ↔ Jq7 s := by
 unfold Jf2 Jq7 Jj5
 simp only [Bool.and_eq_true, decide_eq_true_eq, List.all_eq_true]
 constructor
 ·rintro ⟨⟨h1, h2, h3, h4, h5⟩, h6⟩; exact ⟨h1, h2, h3, h4, h5, h6⟩
 ·rintro ⟨h1, h2, h3, h4, h5, h6⟩; exact ⟨⟨h1, h2, h3, h4, h5⟩, h6⟩
theorem Shape1_ret (x : Int) : Ret Tryz.prog 160 [I x] w (fun v w' => v = .bool (!Jj5 x) ∧ w' = w) := by
 refine Ze Tryz.call160 Tryz.func160 ?_
 refine zS ?_
 by_cases h : x < 1
 ·refine o_is true 2 false rfl rfl rfl (by simp [h]) ?_
  refine zS ?_
  exact ⟨_, rfl, by unfold Jj5; simp; omega, rfl⟩
 ·refine o_is false 2 false rfl rfl rfl (by simp [h]) ?_
  refine zS ?_
  refine ⟨_, rfl, congrArg Value.bool ?_, rfl⟩
  unfold Jj5
  by_cases h2 : 65535 < x
  ·rw [decide_eq_true h2, decide_eq_false oM]; rfl
  ·rw [decide_eq_false h2, decide_eq_true oM]; rfl
theorem Qk7 {pad : Option Addr} {l : List Int} {cap : Nat} (h : Ja7 w pad (l.map I)) (hl : l.length ≤ 4611686018427387904) :
  Ret Tryz.prog 185 [.slice pad l.length cap, .func (.func 160) #[] #[]] w (fun v w' => ∃ i : Int, v = I i ∧ (0 ≤ i ↔ l.all Jj5 = false) ∧ w' = w) := by
 refine Ze Tryz.call185 Tryz.func185 ?_
 refine zS ?_
 refine Jb4 (α := Nat) [0, 1, 7, 8] (fun i => [.slice pad l.length cap, .func (.func 160) #[] #[], I l.length, I i]) (fun i w1 => w = w1 ∧ i ≤ l.length ∧ (l.take i).all Jj5 = true) (fun i => l.length - i) 0 rfl ⟨rfl, oM, rfl⟩ ?_
 rintro i e w1 ⟨rfl, hi, hall⟩
 refine zS ?_
 refine r_if rfl (fun hc => ?_) (fun hc => ?_)
 ·have hlt : i < l.length := oM
  obtain ⟨x, hx⟩ : ∃ x, l[i]? = some x := ⟨_, List.getElem?_eq_getElem hlt⟩
  obtain ⟨b, off, rfl, _, hcell⟩ := h.at_ (by simp; omega)
  refine zS ?_
  refine Zo (v := I x) rfl (hcell i _ (by rw [List.getElem?_map, hx]; rfl)) ?_
  refine zS ?_
  refine Jq3 (first := #[]) (cap := #[]) (Shape1_ret x) rfl rfl rfl rfl ?_
  rintro v w2 ⟨rfl, rfl⟩
  refine zS ?_
  cases hp : Jj5 x with
  | false =>
   refine Jf7 rfl rfl ?_
   refine zS ?_
   refine ⟨_, rfl, i, rfl, ⟨fun _ => ?_, fun _ => oM⟩, rfl⟩
   rw [Bool.eq_false_iff]
   intro hall2
   have := List.all_eq_true.1 hall2 x (List.mem_of_getElem? hx)
   rw [hp] at this; cases this
  | true =>
   refine r_no rfl rfl ?_
   refine zS ?_
   refine ⟨i + 1, rfl, ⟨rfl, oM, ?_⟩, oM⟩
   rw [List.take_add_one, hx, List.all_append, hall]
   simp [hp]
 ·refine zS ?_
  have : i = l.length := oM
  subst this
  rw [List.take_length] at hall
  exact ⟨_, rfl, -1, rfl, ⟨fun h => oM, fun h => by rw [hall] at h; cases h⟩, rfl⟩
theorem Qb2 {pad : Option Addr} {l : List Int} {cap : Nat} (h : Ja7 w pad (l.map I)) (hl : l.length ≤ 4611686018427387904) :
  Ret Tryz.prog 159 [.slice pad l.length cap, .func (.func 160) #[] #[]] w (fun v w' => v = .bool (!l.all Jj5) ∧ w' = w) := by
 refine Ze Tryz.call159 Tryz.func159 ?_
 refine zS ?_
 refine Zc (Qk7 h hl) ?_
 rintro v w1 ⟨i, rfl, hi, rfl⟩
 refine zS ?_
 refine ⟨_, rfl, ?_, rfl⟩
 congr 1
 cases ha : l.all Jj5 with
 | false => simpa using hi.2 ha
 | true =>
  have : ¬ 0 ≤ i := fun h0 => by have := hi.1 h0; rw [ha] at this; cases this
  simp; omega
theorem Shape_ret {s : Shp} {pad : Option Addr} {cap : Nat} (h : Ja7 w pad (s.pa.map I)) (hl : s.pa.length ≤ 4611686018427387904) :
  Ret Tryz.prog 128 [.agg ⟨shC s pad cap⟩] w (fun v w' => v = I (if Jf2 s then 0 else 5) ∧ Kp [] w w') := by
 refine Ze Tryz.call128 Tryz.func128 ?_
 refine zS ?_
 refine Zx ?_
 intro bx w1 hbx hu1
 have hB1 : Blk w1 bx (shC s pad cap) 27 := hu1.blk
 have k1 : Kp [] w w1 := hu1.new oM
 have hr1 := h.kp k1 sI
 refine zS ?_
 refine Zl (v := I s.th) rfl hB1 ?_
 refine zS ?_
 by_cases c1 : s.th < 1
 ·refine o_is true 3 false rfl rfl rfl (by simp [c1]) ?_
  refine zS ?_
  have e : Jf2 s = false := by rw [Bool.eq_false_iff]; intro hh; have := (Jh5 s).1 hh; unfold Jq7 at this; omega
  exact ⟨_, rfl, by rw [e]; rfl, k1⟩
 refine o_is false 3 false rfl rfl rfl (by simp [c1]) ?_
 refine zS ?_
 refine Zl (v := I s.th) rfl hB1 ?_
 refine zS ?_
 by_cases c2 : 65535 < s.th
 ·refine o_is true 8 false rfl rfl rfl (by simp [c2]) ?_
  refine zS ?_
  have e : Jf2 s = false := by rw [Bool.eq_false_iff]; intro hh; have := (Jh5 s).1 hh; unfold Jq7 at this; omega
  exact ⟨_, rfl, by rw [e]; rfl, k1⟩
 refine o_is false 8 false rfl rfl rfl (by simp [c2]) ?_
 refine zS ?_
 refine Zl (v := I s.va) rfl hB1 ?_
 refine zS ?_
 refine Zl (v := I s.vo) rfl hB1 ?_
 refine zS ?_
 refine Zl (v := I s.lo) rfl hB1 ?_
 refine zS ?_
 by_cases c3 : min (min s.va s.vo) s.lo < 0
 ·refine o_is true 18 false rfl rfl rfl (by simp only [c3, decide_true]) ?_
  refine zS ?_
  have e : Jf2 s = false := by rw [Bool.eq_false_iff]; intro hh; have := (Jh5 s).1 hh; unfold Jq7 at this; omega
  exact ⟨_, rfl, by rw [e]; rfl, k1⟩
 refine o_is false 18 false rfl rfl rfl (by simp only [c3, decide_false]) ?_
 refine zS ?_
 refine Zl (v := I s.va) rfl hB1 ?_
 refine zS ?_
 refine Zl (v := I s.vo) rfl hB1 ?_
 refine zS ?_
 refine Zl (v := I s.lo) rfl hB1 ?_
 refine zS ?_
 refine Zl (v := .slice pad s.pa.length cap) rfl hB1 ?_
 refine zS ?_
 refine r_if (p := 4096 < max (max (max s.va s.vo) s.lo) (s.pa.length : Int)) rfl (fun c4 => ?_) (fun c4 => ?_)
 ·refine zS ?_
  have e : Jf2 s = false := by rw [Bool.eq_false_iff]; intro hh; have := (Jh5 s).1 hh; unfold Jq7 at this; omega
  exact ⟨_, rfl, by rw [e]; rfl, k1⟩
 refine zS ?_
 refine Zl (v := .slice pad s.pa.length cap) rfl hB1 ?_
 refine zS ?_
 refine Zc (Qb2 hr1 hl) ?_
 rintro v wx ⟨rfl, rfl⟩
 refine zS ?_
 cases ha : s.pa.all Jj5 with
 | false =>
  refine Jf7 rfl rfl ?_
  refine zS ?_
  have e : Jf2 s = false := by unfold Jf2; rw [ha, Bool.and_false]
  exact ⟨_, rfl, by rw [e]; rfl, k1⟩
 | true =>
  refine r_no rfl rfl ?_
  refine zS ?_
  have e : Jf2 s = true := by
   unfold Jf2; rw [ha, Bool.and_true]
   simp only [decide_eq_true_eq]
   omega
  exact ⟨_, rfl, by rw [e]; rfl, k1⟩
theorem CloneI_ret {ad : Option Addr} {l : List Int} {cap : Nat} (h : Ja7 w ad (l.map I)) (hbig : l.length * 8 ≤ 140737488355328) (hmax : l.length ≤ maxLen) :
  Ret Tryz.prog 129 [.slice ad l.length cap] w (fun v w' => ∃ ad' cap', v = .slice ad' l.length cap' ∧ NewS w 3 w' ad' l.length cap' (l.map I)) := by
 refine Ze Tryz.call129 Tryz.func129 ?_
 refine zS ?_
 cases ad with
 | none =>
  have hws : l = [] := by simpa [Ja7] using h
  subst hws
  refine zS ?_
  exact ⟨_, rfl, none, 0, rfl, ⟨Jd6 _ _ _, Kp.refl _ _, by simp [Ja1]⟩⟩
 | some a =>
  refine zS ?_
  refine Jf0 rfl rfl rfl rfl ?_
  intro b w1 hb hu1
  have k1 : Kp [] w w1 := hu1.new oM
  have ho1 : OwnS w1 3 1 (some ⟨b, 0, none⟩) 0 0 [] := ⟨rfl, rfl, rfl, lR, by simp [maxLen], [], hu1.blk, rfl⟩
  refine zS ?_
  by_cases h0 : l.length = 0
  ·have hws : l = [] := List.eq_nil_of_length_eq_zero h0
   subst hws
   refine Qf5 (ad := some ⟨b, 0, none⟩) (k := 0) (cap := 0) (ay := some a) (cy := cap) rfl rfl lR rfl rfl rfl rfl ?_
   refine zS ?_
   exact ⟨_, rfl, _, 0, rfl, ⟨ho1, k1, by simp [Ja1]; omega⟩⟩
  ·refine Jo0 (l.map I) rfl rfl ho1 ?_ rfl rfl rfl oM sI oM (by simp [Value.oneCell']) oM (by simpa using hbig) rfl rfl ?_
   ·intro j v hv
    exact (h.kp k1 sI) j v hv
   intro ad2 cap2 w2 ho2 k2 hnew
   refine zS ?_
   rw [Nat.zero_add] at ho2
   refine ⟨_, rfl, ad2, cap2, by rw [Nat.zero_add], ⟨ho2, k1.since k2 (by simp [Ja1]; omega), fun c hc => ?_⟩⟩
   rcases hnew c hc with h1 | h1
   ·simp [Ja1] at h1; omega
   ·have := hu1.size; omega
section
variable {g : CkG} {s : Shp} {c : Ck}
theorem asked_ret (v0 : Value) (i n : Int) : Ret Tryz.prog 131 [v0, I i, I n] w (fun v w' => v = I (if 0 ≤ i ∧ i < n then 0 else 2) ∧ w' = w) := by
 refine Ze Tryz.call131 Tryz.func131 ?_
 refine zS ?_
 by_cases h : i < 0
 ·refine o_is true 2 false rfl rfl rfl (by simp [h]) ?_
  refine zS ?_
  exact ⟨_, rfl, by rw [if_neg oM], rfl⟩
 ·refine o_is false 2 false rfl rfl rfl (by simp [h]) ?_
  refine zS ?_
  refine r_if (p := n ≤ i) rfl (fun hc => ?_) (fun hc => ?_)
  ·refine zS ?_
   exact ⟨_, rfl, by rw [if_neg oM], rfl⟩
  ·refine zS ?_
   exact ⟨_, rfl, by rw [if_pos oM], rfl⟩
theorem Stand_ret (h : CkAt w g s c) (t : Int) : Ret Tryz.prog 88 [ptr g.p, I t] w (fun v w' => v = .tuple #[stdV (st c t), I (if 0 ≤ t ∧ t < s.th then 0 else 2)] ∧ Kp [] w w') := by
 refine Zd Tryz.call88 Tryz.func88 ?_
 refine zS ?_
 refine Za ?_
 intro bs w1 hbs hu1
 have k1 : Kp [] w w1 := hu1.new oM
 have h1 := h.kp0 k1
 refine zS ?_
 refine Zc (Js6 h1) ?_
 rintro v wx ⟨rfl, rfl⟩
 refine zS ?_
 refine Ja9 ?_
 refine Jo6 (fun w' => Kp [] w w') [(0, false), (1, false), (2, false), (3, false), (4, false), (5, false), (6, false), (7, false), (8, false), (9, false), (10, false), (11, false), (12, false), (13, true), (14, true), (15, false)] Ja0 kR kR kR (k1.trans ((Sm.drew wx).kp [])) ?_
 have hB2 := (Sm.drew wx).blk hu1.blk
 have kd := k1.trans ((Sm.drew wx).kp [])
 generalize ({ wx with drawn := wx.drawn + 1 } : World) = w2 at kd hB2 ⊢
 refine zX ?_
 refine Zy (v := .map (some g.m1)) rfl rfl (fun w' h' => (h.kp0 h').hdr.cell rfl) ?_
 refine zX ?_
 refine x_lookI (stdV (st c t)) rfl rfl rfl (fun w' h' => (h.kp0 h').mt) (Qd1 c.T t) rfl rfl rfl rfl rfl rfl ?_
 refine zX ?_
 refine Zy (v := I s.th) rfl rfl (fun w' h' => (h.kp0 h').hdr.cell rfl) ?_
 refine zX ?_
 refine Jh2 rfl ?_
 refine Zc (asked_ret _ t s.th) ?_
 rintro v w3 ⟨rfl, rfl⟩
 refine Ja6 ⟨.inr kd, ?_⟩
 refine zX ?_
 refine Jh2 rfl ?_
 refine Zs (cs := stdC (st c t)) rfl hB2 lR rfl (by simp [Value.oneCell']) ?_
 intro w4 hu4
 have k4 : Kp [] w w4 := kd.since (hu4.kp [bs] (.inl sI)) (by simp; omega)
 refine Ja6 ⟨.inr k4, ?_⟩
 refine zX ?_
 refine zS ?_
 have hB4 : Blk w4 bs (stdC (st c t)) 136 := hu4.blk
 exact ⟨[stdV (st c t), _], ⟨⟨_, rfl, Jb9 hB4 rfl rfl rfl rfl⟩, ⟨_, rfl⟩, trivial⟩, rfl, k4⟩
theorem opsC_zero (l : List Int) : opsC (l.map fun _ => ((0 : Int), (0 : Int))) = (List.replicate l.length [I 0, I 0]).flatten := by
 induction l with
 | nil => rfl
 | cons x r ih =>
  have e1 : ∀ z t, opsC (z :: t) = I z.1 :: I z.2 :: opsC t := fun z t => by simp [opsC, opC2]
  rw [List.map_cons, e1, ih, List.length_cons, List.replicate_succ, List.flatten_cons]; rfl
theorem newC_ok {s : Shp} (h : Jq7 s) : CkOk s (newC s) := by
 refine ⟨h, fun t x hx => ?_, fun l t hl => by simp [newC] at hl, by simp [newC], fun x hx => ?_⟩
 ·rcases Jj2 (f := fun _ => none) (k := 0) (v := some (⟨1, 0, 0⟩ : Std)) hx with ⟨rfl, e⟩ | ⟨_, e⟩
  ·cases e; exact ⟨⟨oM, by have := h.1; omega⟩, fun h => by simp at h⟩
  ·cases e
 ·simp only [newC, List.mem_map] at hx
  obtain ⟨_, _, rfl⟩ := hx
  simp [newC]
theorem newCk {w w4 wz wb : World} {s : Shp} {pa3 : Option Addr} {pc3 m1 m2 sb bo : Nat} {L : List Value} {T : TypeId} (hs : Jf2 s = true) (k04 : Kp [] w w4) (hpa : OwnS w4 3 1 pa3 s.pa.length pc3 (s.pa.map I)) (hpn : ∀ b, b ∈ Ja1 pa3 → w.heap.size ≤ b ∧ b < w4.heap.size) (kk2 : Kp [] w4 wb) (kk : Kp [] w4 wz)
  (hm1 : MapI wz m1 (upF (fun _ => none) 0 (some (stdV ⟨1, 0, 0⟩)))) (hm2 : MapI wz m2 (fun _ => none)) (hBs : Blk wz sb L T) (n12 : m1 ≠ m2) (n1s : m1 ≠ sb) (n2s : m2 ≠ sb) (m1n : w4.heap.size ≤ m1) (m2n : w4.heap.size ≤ m2) (sbn : w4.heap.size ≤ sb) (hbo : bo = wz.heap.size)
  (hubo : Upd wz bo (.cells ⟨[I s.th, I s.va, I s.vo, I s.lo, .slice pa3 s.pa.length pc3, .map (some m1), .map (some m2), .slice (some ⟨sb, 0, none⟩) s.pa.length s.pa.length, I 0]⟩ 237 (0, 0)) wb) (hL : L = (List.replicate s.pa.length [I 0, I 0]).flatten) (hT : T = 131) :
  CkAt wb ⟨bo, m1, m2, pa3, pc3, some ⟨sb, 0, none⟩, s.pa.length⟩ s (newC s) ∧ Kp [] w wb ∧ ∀ b, b ∈ (CkG.mk bo m1 m2 pa3 pc3 (some ⟨sb, 0, none⟩) s.pa.length).F → w.heap.size ≤ b := by
 subst hL hT
 have kb : Kp [] wz wb := hubo.new oM
 have hso := (Jh5 s).1 hs
 have l1 := hm1.lt
 have l2 := hm2.lt
 have l3 := hBs.lt
 have zz := kk.size
 have z4 := k04.size
 refine ⟨⟨⟨by have := hubo.blk; simpa [ckC, newC] using this, ?_, ?_, hpa.kp kk2 sI, ?_, ?_⟩, newC_ok hso⟩, k04.trans kk2, fun b hb => ?_⟩
 ·have e : mapT (newC s).T = upF (fun _ => none) 0 (some (stdV ⟨1, 0, 0⟩)) := by
   funext z; unfold mapT newC upT upF
   by_cases hz : z = 0
   ·simp [hz]
   ·simp [hz]
  rw [e]; exact hm1.kp kb sI
 ·have e : mapO (newC s).O = fun _ => none := rfl
  rw [e]; exact hm2.kp kb sI
 ·have e : opsC (newC s).op = (List.replicate s.pa.length [I 0, I 0]).flatten := opsC_zero s.pa
  have el : (newC s).op.length = s.pa.length := by simp [newC]
  refine ⟨by rw [Jo2], rfl, rfl, by rw [el]; exact lR, by have := hso.2.2.2.2.1; simp only [maxLen]; omega, [], ?_, ?_⟩
  ·rw [e, List.append_nil]; exact kb.b0 hBs
  ·rw [e, List.append_nil, ← opsC_zero, Jo2, List.length_map]
 ·show (bo :: m1 :: m2 :: (Ja1 pa3 ++ [sb])).Nodup
  simp only [List.nodup_cons, List.mem_cons, List.mem_append, List.not_mem_nil, or_false, not_or, List.nodup_append]
  refine ⟨⟨oM, oM, fun hb => by have := hpn _ hb; omega, oM⟩, ⟨n12, fun hb => by have := hpn _ hb; omega, n1s⟩, ⟨fun hb => by have := hpn _ hb; omega, n2s⟩, ?_, sI, fun a ha b hb => ?_⟩
  ·cases pa3 <;> simp [Ja1]
  ·obtain rfl : b = sb := by simpa using hb
   have := hpn _ ha; omega
 ·have hb : b ∈ bo :: m1 :: m2 :: (Ja1 pa3 ++ [sb]) := hb
  simp only [List.mem_cons, List.mem_append, List.not_mem_nil, or_false] at hb
  rcases hb with rfl | rfl | rfl | hb | rfl
  ·omega
  ·omega
  ·omega
  ·exact (hpn b hb).1
  ·omega
theorem fNew_ret {pad : Option Addr} {cap : Nat} (hr : Ja7 w pad (s.pa.map I)) (hl : s.pa.length ≤ 1048576) :
  Ret Tryz.prog 85 [.agg ⟨shC s pad cap⟩] w (fun v w' => (Jf2 s = false ∧ v = .tuple #[.pointer none, I 5] ∧ Kp [] w w') ∨ (Jf2 s = true ∧ ∃ g, v = .tuple #[ptr g.p, I 0] ∧ CkAt w' g s (newC s) ∧ Kp [] w w' ∧ ∀ b, b ∈ g.F → w.heap.size ≤ b)) := by
 refine Ze Tryz.call85 Tryz.func85 ?_
 refine zS ?_
 refine Zx ?_
 intro bx w1 hbx hu1
 have hB1 : Blk w1 bx (shC s pad cap) 27 := hu1.blk
 have k1 : Kp [] w w1 := hu1.new oM
 have hr1 := hr.kp k1 sI
 refine zS ?_
 refine Zm (vs := shC s pad cap) rfl (fun j v hv => ?_) ?_
 ·rw [Nat.zero_add]; exact hB1.cell hv
 refine zS ?_
 refine Zc (Shape_ret hr1 oM) ?_
 rintro v w2 ⟨rfl, k2⟩
 have k02 := k1.trans k2
 have hB2 := k2.b0 hB1
 have hr2 := hr1.kp k2 sI
 refine zS ?_
 cases hs : Jf2 s with
 | false =>
  simp only [Bool.false_eq_true, if_false]
  refine zS ?_
  exact ⟨_, rfl, .inl ⟨trivial, rfl, k02⟩⟩
 | true =>
  simp only [if_true]
  refine zS ?_
  refine Zl (v := .slice pad s.pa.length cap) rfl hB2 ?_
  refine zS ?_
  refine Zc (CloneI_ret hr2 oM (by simp only [maxLen]; omega)) ?_
  rintro v w3 ⟨pa3, pc3, rfl, n3⟩
  have hB3 := n3.kp.b0 hB2
  refine zS ?_
  refine Zt (v := .slice pa3 s.pa.length pc3) (c := none) rfl hB3 sI ?_
  intro w4 hu4
  have hB4 : Blk w4 bx (shC s pa3 pc3) 27 := hu4.blk
  refine zS ?_
  have hn3k := hu4.kp [bx] (.inl sI)
  have n3own : OwnS w4 3 1 pa3 s.pa.length pc3 (s.pa.map I) := n3.own.kp hn3k (fun b hb => by have := n3.new b hb; have := hB2.lt; simp; omega)
  have k04 : Kp [] w w4 := (k02.trans n3.kp).since hn3k (by simp; omega)
  have n3new : ∀ b, b ∈ Ja1 pa3 → w.heap.size ≤ b ∧ b < w4.heap.size := fun b hb => ⟨by have := n3.new b hb; have := k02.size; omega, n3own.lt b hb⟩
  have hsl := ((Jh5 s).1 hs).2.2.2.2.1
  refine Ja9 ?_
  refine Qj6 (fun w' => Kp [] w4 w') 14 Ja0 kR ?_
  have kk := (Sm.drew w4).kp []
  generalize ({ w4 with drawn := w4.drawn + 1 } : World) = wd at kk ⊢
  have kkz := kk
  refine t_with (fun e w' => ∃ m1 m2 sb : Nat, [1, 14, 17, 18, 22].map e = [ptr bx, .agg ⟨shC s pa3 pc3⟩, .map (some m1), .map (some m2), .slice (some ⟨sb, 0, none⟩) s.pa.length s.pa.length] ∧ Kp [] w4 w' ∧ MapI w' m1 (upF (fun _ => none) 0 (some (stdV ⟨1, 0, 0⟩))) ∧ MapI w' m2 (fun _ => none) ∧ Blk w' sb (List.replicate s.pa.length [I 0, I 0]).flatten 131 ∧ m1 ≠ m2 ∧ m1 ≠ sb ∧ m2 ≠ sb ∧ w4.heap.size ≤ m1 ∧ w4.heap.size ≤ m2 ∧ w4.heap.size ≤ sb) 4 [0, 1, 2, 3, 4, 5, 6, 7, 8, 9] ?_ (fun hleaf => ?_)
  ·rintro e wz ⟨m1, m2, sb, he, kk, hm1, hm2, hBs, n12, n1s, n2s, m1n, m2n, sbn⟩
   rw [← Jq9 he]
   refine Ji9 [10] 3 kR kR kR kk ?_
   try dsimp only [List.map_cons, List.map_nil]
   refine x_build [I s.th, I s.va, I s.vo, I s.lo, .slice pa3 s.pa.length pc3, .map (some m1), .map (some m2), .slice (some ⟨sb, 0, none⟩) s.pa.length s.pa.length, I 0] rfl rfl rfl rfl rfl kR rfl rfl ?_
   refine zX ?_
   refine Je4 11 kR rfl ?_
   refine Zx ?_
   intro bo wb hbo hubo
   have kk2 := kk.trans (hubo.new oM)
   refine Ja6 ⟨.inr kk2, ?_⟩
   refine Ji9 [12, 13] 0 kR kR kR kk2 ?_
   try dsimp only [List.map_cons, List.map_nil]
   refine zX ?_
   refine Qi6 kR ?_
   refine zS ?_
   refine ⟨_, rfl, .inr ⟨trivial, ⟨bo, m1, m2, pa3, pc3, some ⟨sb, 0, none⟩, s.pa.length⟩, rfl, ?_⟩⟩
   exact newCk hs k04 n3own n3new kk2 kk hm1 hm2 hBs n12 n1s n2s m1n m2n sbn hbo hubo rfl rfl
  refine Ji9 [0, 2, 6, 7, 8] 9 kR kR kR kk ?_
  try dsimp only [List.map_cons, List.map_nil]
  refine zX ?_
  refine Zz (vs := shC s pa3 pc3) rfl rfl (fun w' h' j v hv => by rw [Nat.zero_add]; exact (h'.b0 hB4).cell hv) ?_
  refine zX ?_
  refine Zv [I 1, I 0, I 0] rfl ?_
  refine zX ?_
  refine Zy (v := .slice pa3 s.pa.length pc3) rfl rfl (fun w' h' => (h'.b0 hB4).cell rfl) ?_
  refine zX ?_
  refine t_three 1 5 9 kR rfl rfl rfl ?_ ?_ ?_
  ·refine Je0 rfl rfl ?_
   intro m1 u1 e1 k1 z1 hm1
   have kk := kk.trans k1
   have m1n : w4.heap.size ≤ m1 := by have := kkz.size; omega
   have hm1lt : m1 < u1.heap.size := oM
   have kkz := kk
   refine Ja6 ⟨.inr kk, ?_⟩
   refine t_three 3 5 9 kR rfl rfl rfl ?_ ?_ ?_
   ·refine Zi (k := 0) (v := stdV ⟨1, 0, 0⟩) rfl rfl rfl hm1 ?_
    intro u2 hu2
    have k2 := hu2.kp [m1] (.inl sI)
    have hm1 := hu2.at_
    have kk := kk.since k2 (by simp; omega)
    have hm1lt : m1 < u2.heap.size := Nat.lt_of_lt_of_le hm1lt k2.size
    have kkz := kk
    refine Ja6 ⟨.inr kk, ?_⟩
    refine Ji9 [4] 6 kR kR kR kk ?_
    try dsimp only [List.map_cons, List.map_nil]
    refine zX ?_
    refine Jz9 5 9 kR rfl rfl ?_ ?_
    ·refine Je0 rfl rfl ?_
     intro m2 u3 e3 k3 z3 hm2
     have hm1 := hm1.kp k3 sI
     have kk := kk.trans k3
     have m2n : w4.heap.size ≤ m2 := by have := kkz.size; omega
     have n12 : m1 ≠ m2 := by have := hm1lt; omega
     have hm2lt : m2 < u3.heap.size := oM
     have hm1lt : m1 < u3.heap.size := Nat.lt_of_lt_of_le hm1lt k3.size
     have kkz := kk
     refine Ja6 ⟨.inr kk, ?_⟩
     refine Je4 9 kR rfl ?_
     ·refine Jn0 (len := (s.pa.length : Int)) (cap := (s.pa.length : Int)) (kl := .i64) (kc := .i64) rfl rfl rfl rfl rfl oM oM oM oM rfl rfl ?_
      intro sb u4 e4 hu4
      have k4 := hu4.new oM
      have z4 := hu4.lt
      have hm1 := hm1.kp k4 sI
      have hm2 := hm2.kp k4 sI
      have hBs := hu4.blk
      rw [Int.toNat_natCast] at hBs ⊢
      have kk := kk.trans k4
      have sbn : w4.heap.size ≤ sb := by have := kkz.size; omega
      have n1s : m1 ≠ sb := by have := hm1lt; omega
      have n2s : m2 ≠ sb := by have := hm2lt; omega
      have hsblt : sb < u4.heap.size := oM
      have hm1lt : m1 < u4.heap.size := Nat.lt_of_lt_of_le hm1lt k4.size
      have hm2lt : m2 < u4.heap.size := Nat.lt_of_lt_of_le hm2lt k4.size
      have kkz := kk
      refine Ja6 ⟨.inr kk, ?_⟩
      exact Jh7 kR (hleaf _ _ ⟨m1, m2, sb, rfl, kk, hm1, hm2, hBs, n12, n1s, n2s, m1n, m2n, sbn⟩)
    ·refine Jn0 (len := (s.pa.length : Int)) (cap := (s.pa.length : Int)) (kl := .i64) (kc := .i64) rfl rfl rfl rfl rfl oM oM oM oM rfl rfl ?_
     intro sb u5 e5 hu5
     have k5 := hu5.new oM
     have z5 := hu5.lt
     have hm1 := hm1.kp k5 sI
     have hBs := hu5.blk
     rw [Int.toNat_natCast] at hBs ⊢
     have kk := kk.trans k5
     have sbn : w4.heap.size ≤ sb := by have := kkz.size; omega
     have n1s : m1 ≠ sb := by have := hm1lt; omega
     have hsblt : sb < u5.heap.size := oM
     have hm1lt : m1 < u5.heap.size := Nat.lt_of_lt_of_le hm1lt k5.size
     have kkz := kk
     refine Ja6 ⟨.inr kk, ?_⟩
     refine Je4 5 kR rfl ?_
     ·refine Je0 rfl rfl ?_
      intro m2 u6 e6 k6 z6 hm2
      have hm1 := hm1.kp k6 sI
      have hBs := k6.b0 hBs
      have kk := kk.trans k6
      have m2n : w4.heap.size ≤ m2 := by have := kkz.size; omega
      have n12 : m1 ≠ m2 := by have := hm1lt; omega
      have n2s : m2 ≠ sb := by have := hsblt; omega
      have hm2lt : m2 < u6.heap.size := oM
      have hsblt : sb < u6.heap.size := Nat.lt_of_lt_of_le hsblt k6.size
      have hm1lt : m1 < u6.heap.size := Nat.lt_of_lt_of_le hm1lt k6.size
      have kkz := kk
      refine Ja6 ⟨.inr kk, ?_⟩
      exact Jh7 kR (hleaf _ _ ⟨m1, m2, sb, rfl, kk, hm1, hm2, hBs, n12, n1s, n2s, m1n, m2n, sbn⟩)
   ·refine Je0 rfl rfl ?_
    intro m2 u7 e7 k7 z7 hm2
    have hm1 := hm1.kp k7 sI
    have kk := kk.trans k7
    have m2n : w4.heap.size ≤ m2 := by have := kkz.size; omega
    have n12 : m1 ≠ m2 := by have := hm1lt; omega
    have hm2lt : m2 < u7.heap.size := oM
    have hm1lt : m1 < u7.heap.size := Nat.lt_of_lt_of_le hm1lt k7.size
    have kkz := kk
    refine Ja6 ⟨.inr kk, ?_⟩
    refine Jz9 3 9 kR rfl rfl ?_ ?_
    ·refine Zi (k := 0) (v := stdV ⟨1, 0, 0⟩) rfl rfl rfl hm1 ?_
     intro u8 hu8
     have k8 := hu8.kp [m1] (.inl sI)
     have hm2 := hm2.kp k8 (by simpa using fun e => n12 e.symm)
     have hm1 := hu8.at_
     have kk := kk.since k8 (by simp; omega)
     have hm1lt : m1 < u8.heap.size := Nat.lt_of_lt_of_le hm1lt k8.size
     have hm2lt : m2 < u8.heap.size := Nat.lt_of_lt_of_le hm2lt k8.size
     have kkz := kk
     refine Ja6 ⟨.inr kk, ?_⟩
     refine Ji9 [4] 5 kR kR kR kk ?_
     try dsimp only [List.map_cons, List.map_nil]
     refine zX ?_
     refine Je4 9 kR rfl ?_
     ·refine Jn0 (len := (s.pa.length : Int)) (cap := (s.pa.length : Int)) (kl := .i64) (kc := .i64) rfl rfl rfl rfl rfl oM oM oM oM rfl rfl ?_
      intro sb u9 e9 hu9
      have k9 := hu9.new oM
      have z9 := hu9.lt
      have hm1 := hm1.kp k9 sI
      have hm2 := hm2.kp k9 sI
      have hBs := hu9.blk
      rw [Int.toNat_natCast] at hBs ⊢
      have kk := kk.trans k9
      have sbn : w4.heap.size ≤ sb := by have := kkz.size; omega
      have n1s : m1 ≠ sb := by have := hm1lt; omega
      have n2s : m2 ≠ sb := by have := hm2lt; omega
      have hsblt : sb < u9.heap.size := oM
      have hm1lt : m1 < u9.heap.size := Nat.lt_of_lt_of_le hm1lt k9.size
      have hm2lt : m2 < u9.heap.size := Nat.lt_of_lt_of_le hm2lt k9.size
      have kkz := kk
      refine Ja6 ⟨.inr kk, ?_⟩
      exact Jh7 kR (hleaf _ _ ⟨m1, m2, sb, rfl, kk, hm1, hm2, hBs, n12, n1s, n2s, m1n, m2n, sbn⟩)
    ·refine Jn0 (len := (s.pa.length : Int)) (cap := (s.pa.length : Int)) (kl := .i64) (kc := .i64) rfl rfl rfl rfl rfl oM oM oM oM rfl rfl ?_
     intro sb u10 e10 hu10
     have k10 := hu10.new oM
     have z10 := hu10.lt
     have hm1 := hm1.kp k10 sI
     have hm2 := hm2.kp k10 sI
     have hBs := hu10.blk
     rw [Int.toNat_natCast] at hBs ⊢
     have kk := kk.trans k10
     have sbn : w4.heap.size ≤ sb := by have := kkz.size; omega
     have n1s : m1 ≠ sb := by have := hm1lt; omega
     have n2s : m2 ≠ sb := by have := hm2lt; omega
     have hsblt : sb < u10.heap.size := oM
     have hm1lt : m1 < u10.heap.size := Nat.lt_of_lt_of_le hm1lt k10.size
     have hm2lt : m2 < u10.heap.size := Nat.lt_of_lt_of_le hm2lt k10.size
     have kkz := kk
     refine Ja6 ⟨.inr kk, ?_⟩
     refine Je4 3 kR rfl ?_
     ·refine Zi (k := 0) (v := stdV ⟨1, 0, 0⟩) rfl rfl rfl hm1 ?_
      intro u11 hu11
      have k11 := hu11.kp [m1] (.inl sI)
      have hm2 := hm2.kp k11 (by simpa using fun e => n12 e.symm)
      have hBs := k11.blk (by simpa using fun e => n1s e.symm) hBs
      have hm1 := hu11.at_
      have kk := kk.since k11 (by simp; omega)
      have hsblt : sb < u11.heap.size := Nat.lt_of_lt_of_le hsblt k11.size
      have hm1lt : m1 < u11.heap.size := Nat.lt_of_lt_of_le hm1lt k11.size
      have hm2lt : m2 < u11.heap.size := Nat.lt_of_lt_of_le hm2lt k11.size
      have kkz := kk
      refine Ja6 ⟨.inr kk, ?_⟩
      refine Ji9 [4] 4 kR kR kR kk ?_
      try dsimp only [List.map_cons, List.map_nil]
      refine zX ?_
      exact Jh7 kR (hleaf _ _ ⟨m1, m2, sb, rfl, kk, hm1, hm2, hBs, n12, n1s, n2s, m1n, m2n, sbn⟩)
   ·refine Jn0 (len := (s.pa.length : Int)) (cap := (s.pa.length : Int)) (kl := .i64) (kc := .i64) rfl rfl rfl rfl rfl oM oM oM oM rfl rfl ?_
    intro sb u12 e12 hu12
    have k12 := hu12.new oM
    have z12 := hu12.lt
    have hm1 := hm1.kp k12 sI
    have hBs := hu12.blk
    rw [Int.toNat_natCast] at hBs ⊢
    have kk := kk.trans k12
    have sbn : w4.heap.size ≤ sb := by have := kkz.size; omega
    have n1s : m1 ≠ sb := by have := hm1lt; omega
    have hsblt : sb < u12.heap.size := oM
    have hm1lt : m1 < u12.heap.size := Nat.lt_of_lt_of_le hm1lt k12.size
    have kkz := kk
    refine Ja6 ⟨.inr kk, ?_⟩
    refine Jz9 3 5 kR rfl rfl ?_ ?_
    ·refine Zi (k := 0) (v := stdV ⟨1, 0, 0⟩) rfl rfl rfl hm1 ?_
     intro u13 hu13
     have k13 := hu13.kp [m1] (.inl sI)
     have hBs := k13.blk (by simpa using fun e => n1s e.symm) hBs
     have hm1 := hu13.at_
     have kk := kk.since k13 (by simp; omega)
     have hsblt : sb < u13.heap.size := Nat.lt_of_lt_of_le hsblt k13.size
     have hm1lt : m1 < u13.heap.size := Nat.lt_of_lt_of_le hm1lt k13.size
     have kkz := kk
     refine Ja6 ⟨.inr kk, ?_⟩
     refine Ji9 [4] 5 kR kR kR kk ?_
     try dsimp only [List.map_cons, List.map_nil]
     refine zX ?_
     refine Je4 5 kR rfl ?_
     ·refine Je0 rfl rfl ?_
      intro m2 u14 e14 k14 z14 hm2
      have hm1 := hm1.kp k14 sI
      have hBs := k14.b0 hBs
      have kk := kk.trans k14
      have m2n : w4.heap.size ≤ m2 := by have := kkz.size; omega
      have n12 : m1 ≠ m2 := by have := hm1lt; omega
      have n2s : m2 ≠ sb := by have := hsblt; omega
      have hm2lt : m2 < u14.heap.size := oM
      have hsblt : sb < u14.heap.size := Nat.lt_of_lt_of_le hsblt k14.size
      have hm1lt : m1 < u14.heap.size := Nat.lt_of_lt_of_le hm1lt k14.size
      have kkz := kk
      refine Ja6 ⟨.inr kk, ?_⟩
      exact Jh7 kR (hleaf _ _ ⟨m1, m2, sb, rfl, kk, hm1, hm2, hBs, n12, n1s, n2s, m1n, m2n, sbn⟩)
    ·refine Je0 rfl rfl ?_
     intro m2 u15 e15 k15 z15 hm2
     have hm1 := hm1.kp k15 sI
     have hBs := k15.b0 hBs
     have kk := kk.trans k15
     have m2n : w4.heap.size ≤ m2 := by have := kkz.size; omega
     have n12 : m1 ≠ m2 := by have := hm1lt; omega
     have n2s : m2 ≠ sb := by have := hsblt; omega
     have hm2lt : m2 < u15.heap.size := oM
     have hsblt : sb < u15.heap.size := Nat.lt_of_lt_of_le hsblt k15.size
     have hm1lt : m1 < u15.heap.size := Nat.lt_of_lt_of_le hm1lt k15.size
     have kkz := kk
     refine Ja6 ⟨.inr kk, ?_⟩
     refine Je4 3 kR rfl ?_
     ·refine Zi (k := 0) (v := stdV ⟨1, 0, 0⟩) rfl rfl rfl hm1 ?_
      intro u16 hu16
      have k16 := hu16.kp [m1] (.inl sI)
      have hBs := k16.blk (by simpa using fun e => n1s e.symm) hBs
      have hm2 := hm2.kp k16 (by simpa using fun e => n12 e.symm)
      have hm1 := hu16.at_
      have kk := kk.since k16 (by simp; omega)
      have hsblt : sb < u16.heap.size := Nat.lt_of_lt_of_le hsblt k16.size
      have hm1lt : m1 < u16.heap.size := Nat.lt_of_lt_of_le hm1lt k16.size
      have hm2lt : m2 < u16.heap.size := Nat.lt_of_lt_of_le hm2lt k16.size
      have kkz := kk
      refine Ja6 ⟨.inr kk, ?_⟩
      refine Ji9 [4] 4 kR kR kR kk ?_
      try dsimp only [List.map_cons, List.map_nil]
      refine zX ?_
      exact Jh7 kR (hleaf _ _ ⟨m1, m2, sb, rfl, kk, hm1, hm2, hBs, n12, n1s, n2s, m1n, m2n, sbn⟩)
  ·refine Je0 rfl rfl ?_
   intro m2 u17 e17 k17 z17 hm2
   have kk := kk.trans k17
   have m2n : w4.heap.size ≤ m2 := by have := kkz.size; omega
   have hm2lt : m2 < u17.heap.size := oM
   have kkz := kk
   refine Ja6 ⟨.inr kk, ?_⟩
   refine Jz9 1 9 kR rfl rfl ?_ ?_
   ·refine Je0 rfl rfl ?_
    intro m1 u18 e18 k18 z18 hm1
    have hm2 := hm2.kp k18 sI
    have kk := kk.trans k18
    have m1n : w4.heap.size ≤ m1 := by have := kkz.size; omega
    have n12 : m1 ≠ m2 := by have := hm2lt; omega
    have hm1lt : m1 < u18.heap.size := oM
    have hm2lt : m2 < u18.heap.size := Nat.lt_of_lt_of_le hm2lt k18.size
    have kkz := kk
    refine Ja6 ⟨.inr kk, ?_⟩
    refine Jz9 3 9 kR rfl rfl ?_ ?_
    ·refine Zi (k := 0) (v := stdV ⟨1, 0, 0⟩) rfl rfl rfl hm1 ?_
     intro u19 hu19
     have k19 := hu19.kp [m1] (.inl sI)
     have hm2 := hm2.kp k19 (by simpa using fun e => n12 e.symm)
     have hm1 := hu19.at_
     have kk := kk.since k19 (by simp; omega)
     have hm1lt : m1 < u19.heap.size := Nat.lt_of_lt_of_le hm1lt k19.size
     have hm2lt : m2 < u19.heap.size := Nat.lt_of_lt_of_le hm2lt k19.size
     have kkz := kk
     refine Ja6 ⟨.inr kk, ?_⟩
     refine Ji9 [4] 5 kR kR kR kk ?_
     try dsimp only [List.map_cons, List.map_nil]
     refine zX ?_
     refine Je4 9 kR rfl ?_
     ·refine Jn0 (len := (s.pa.length : Int)) (cap := (s.pa.length : Int)) (kl := .i64) (kc := .i64) rfl rfl rfl rfl rfl oM oM oM oM rfl rfl ?_
      intro sb u20 e20 hu20
      have k20 := hu20.new oM
      have z20 := hu20.lt
      have hm2 := hm2.kp k20 sI
      have hm1 := hm1.kp k20 sI
      have hBs := hu20.blk
      rw [Int.toNat_natCast] at hBs ⊢
      have kk := kk.trans k20
      have sbn : w4.heap.size ≤ sb := by have := kkz.size; omega
      have n1s : m1 ≠ sb := by have := hm1lt; omega
      have n2s : m2 ≠ sb := by have := hm2lt; omega
      have hsblt : sb < u20.heap.size := oM
      have hm1lt : m1 < u20.heap.size := Nat.lt_of_lt_of_le hm1lt k20.size
      have hm2lt : m2 < u20.heap.size := Nat.lt_of_lt_of_le hm2lt k20.size
      have kkz := kk
      refine Ja6 ⟨.inr kk, ?_⟩
      exact Jh7 kR (hleaf _ _ ⟨m1, m2, sb, rfl, kk, hm1, hm2, hBs, n12, n1s, n2s, m1n, m2n, sbn⟩)
    ·refine Jn0 (len := (s.pa.length : Int)) (cap := (s.pa.length : Int)) (kl := .i64) (kc := .i64) rfl rfl rfl rfl rfl oM oM oM oM rfl rfl ?_
     intro sb u21 e21 hu21
     have k21 := hu21.new oM
     have z21 := hu21.lt
     have hm2 := hm2.kp k21 sI
     have hm1 := hm1.kp k21 sI
     have hBs := hu21.blk
     rw [Int.toNat_natCast] at hBs ⊢
     have kk := kk.trans k21
     have sbn : w4.heap.size ≤ sb := by have := kkz.size; omega
     have n1s : m1 ≠ sb := by have := hm1lt; omega
     have n2s : m2 ≠ sb := by have := hm2lt; omega
     have hsblt : sb < u21.heap.size := oM
     have hm1lt : m1 < u21.heap.size := Nat.lt_of_lt_of_le hm1lt k21.size
     have hm2lt : m2 < u21.heap.size := Nat.lt_of_lt_of_le hm2lt k21.size
     have kkz := kk
     refine Ja6 ⟨.inr kk, ?_⟩
     refine Je4 3 kR rfl ?_
     ·refine Zi (k := 0) (v := stdV ⟨1, 0, 0⟩) rfl rfl rfl hm1 ?_
      intro u22 hu22
      have k22 := hu22.kp [m1] (.inl sI)
      have hm2 := hm2.kp k22 (by simpa using fun e => n12 e.symm)
      have hBs := k22.blk (by simpa using fun e => n1s e.symm) hBs
      have hm1 := hu22.at_
      have kk := kk.since k22 (by simp; omega)
      have hsblt : sb < u22.heap.size := Nat.lt_of_lt_of_le hsblt k22.size
      have hm1lt : m1 < u22.heap.size := Nat.lt_of_lt_of_le hm1lt k22.size
      have hm2lt : m2 < u22.heap.size := Nat.lt_of_lt_of_le hm2lt k22.size
      have kkz := kk
      refine Ja6 ⟨.inr kk, ?_⟩
      refine Ji9 [4] 4 kR kR kR kk ?_
      try dsimp only [List.map_cons, List.map_nil]
      refine zX ?_
      exact Jh7 kR (hleaf _ _ ⟨m1, m2, sb, rfl, kk, hm1, hm2, hBs, n12, n1s, n2s, m1n, m2n, sbn⟩)
   ·refine Jn0 (len := (s.pa.length : Int)) (cap := (s.pa.length : Int)) (kl := .i64) (kc := .i64) rfl rfl rfl rfl rfl oM oM oM oM rfl rfl ?_
    intro sb u23 e23 hu23
    have k23 := hu23.new oM
    have z23 := hu23.lt
    have hm2 := hm2.kp k23 sI
    have hBs := hu23.blk
    rw [Int.toNat_natCast] at hBs ⊢
    have kk := kk.trans k23
    have sbn : w4.heap.size ≤ sb := by have := kkz.size; omega
    have n2s : m2 ≠ sb := by have := hm2lt; omega
    have hsblt : sb < u23.heap.size := oM
    have hm2lt : m2 < u23.heap.size := Nat.lt_of_lt_of_le hm2lt k23.size
    have kkz := kk
    refine Ja6 ⟨.inr kk, ?_⟩
    refine Je4 1 kR rfl ?_
    ·refine Je0 rfl rfl ?_
     intro m1 u24 e24 k24 z24 hm1
     have hm2 := hm2.kp k24 sI
     have hBs := k24.b0 hBs
     have kk := kk.trans k24
     have m1n : w4.heap.size ≤ m1 := by have := kkz.size; omega
     have n12 : m1 ≠ m2 := by have := hm2lt; omega
     have n1s : m1 ≠ sb := by have := hsblt; omega
     have hm1lt : m1 < u24.heap.size := oM
     have hsblt : sb < u24.heap.size := Nat.lt_of_lt_of_le hsblt k24.size
     have hm2lt : m2 < u24.heap.size := Nat.lt_of_lt_of_le hm2lt k24.size
     have kkz := kk
     refine Ja6 ⟨.inr kk, ?_⟩
     refine Je4 3 kR rfl ?_
     ·refine Zi (k := 0) (v := stdV ⟨1, 0, 0⟩) rfl rfl rfl hm1 ?_
      intro u25 hu25
      have k25 := hu25.kp [m1] (.inl sI)
      have hm2 := hm2.kp k25 (by simpa using fun e => n12 e.symm)
      have hBs := k25.blk (by simpa using fun e => n1s e.symm) hBs
      have hm1 := hu25.at_
      have kk := kk.since k25 (by simp; omega)
      have hsblt : sb < u25.heap.size := Nat.lt_of_lt_of_le hsblt k25.size
      have hm1lt : m1 < u25.heap.size := Nat.lt_of_lt_of_le hm1lt k25.size
      have hm2lt : m2 < u25.heap.size := Nat.lt_of_lt_of_le hm2lt k25.size
      have kkz := kk
      refine Ja6 ⟨.inr kk, ?_⟩
      refine Ji9 [4] 4 kR kR kR kk ?_
      try dsimp only [List.map_cons, List.map_nil]
      refine zX ?_
      exact Jh7 kR (hleaf _ _ ⟨m1, m2, sb, rfl, kk, hm1, hm2, hBs, n12, n1s, n2s, m1n, m2n, sbn⟩)
  ·refine Jn0 (len := (s.pa.length : Int)) (cap := (s.pa.length : Int)) (kl := .i64) (kc := .i64) rfl rfl rfl rfl rfl oM oM oM oM rfl rfl ?_
   intro sb u26 e26 hu26
   have k26 := hu26.new oM
   have z26 := hu26.lt
   have hBs := hu26.blk
   rw [Int.toNat_natCast] at hBs ⊢
   have kk := kk.trans k26
   have sbn : w4.heap.size ≤ sb := by have := kkz.size; omega
   have hsblt : sb < u26.heap.size := oM
   have kkz := kk
   refine Ja6 ⟨.inr kk, ?_⟩
   refine Jz9 1 5 kR rfl rfl ?_ ?_
   ·refine Je0 rfl rfl ?_
    intro m1 u27 e27 k27 z27 hm1
    have hBs := k27.b0 hBs
    have kk := kk.trans k27
    have m1n : w4.heap.size ≤ m1 := by have := kkz.size; omega
    have n1s : m1 ≠ sb := by have := hsblt; omega
    have hm1lt : m1 < u27.heap.size := oM
    have hsblt : sb < u27.heap.size := Nat.lt_of_lt_of_le hsblt k27.size
    have kkz := kk
    refine Ja6 ⟨.inr kk, ?_⟩
    refine Jz9 3 5 kR rfl rfl ?_ ?_
    ·refine Zi (k := 0) (v := stdV ⟨1, 0, 0⟩) rfl rfl rfl hm1 ?_
     intro u28 hu28
     have k28 := hu28.kp [m1] (.inl sI)
     have hBs := k28.blk (by simpa using fun e => n1s e.symm) hBs
     have hm1 := hu28.at_
     have kk := kk.since k28 (by simp; omega)
     have hsblt : sb < u28.heap.size := Nat.lt_of_lt_of_le hsblt k28.size
     have hm1lt : m1 < u28.heap.size := Nat.lt_of_lt_of_le hm1lt k28.size
     have kkz := kk
     refine Ja6 ⟨.inr kk, ?_⟩
     refine Ji9 [4] 5 kR kR kR kk ?_
     try dsimp only [List.map_cons, List.map_nil]
     refine zX ?_
     refine Je4 5 kR rfl ?_
     ·refine Je0 rfl rfl ?_
      intro m2 u29 e29 k29 z29 hm2
      have hBs := k29.b0 hBs
      have hm1 := hm1.kp k29 sI
      have kk := kk.trans k29
      have m2n : w4.heap.size ≤ m2 := by have := kkz.size; omega
      have n12 : m1 ≠ m2 := by have := hm1lt; omega
      have n2s : m2 ≠ sb := by have := hsblt; omega
      have hm2lt : m2 < u29.heap.size := oM
      have hsblt : sb < u29.heap.size := Nat.lt_of_lt_of_le hsblt k29.size
      have hm1lt : m1 < u29.heap.size := Nat.lt_of_lt_of_le hm1lt k29.size
      have kkz := kk
      refine Ja6 ⟨.inr kk, ?_⟩
      exact Jh7 kR (hleaf _ _ ⟨m1, m2, sb, rfl, kk, hm1, hm2, hBs, n12, n1s, n2s, m1n, m2n, sbn⟩)
    ·refine Je0 rfl rfl ?_
     intro m2 u30 e30 k30 z30 hm2
     have hBs := k30.b0 hBs
     have hm1 := hm1.kp k30 sI
     have kk := kk.trans k30
     have m2n : w4.heap.size ≤ m2 := by have := kkz.size; omega
     have n12 : m1 ≠ m2 := by have := hm1lt; omega
     have n2s : m2 ≠ sb := by have := hsblt; omega
     have hm2lt : m2 < u30.heap.size := oM
     have hsblt : sb < u30.heap.size := Nat.lt_of_lt_of_le hsblt k30.size
     have hm1lt : m1 < u30.heap.size := Nat.lt_of_lt_of_le hm1lt k30.size
     have kkz := kk
     refine Ja6 ⟨.inr kk, ?_⟩
     refine Je4 3 kR rfl ?_
     ·refine Zi (k := 0) (v := stdV ⟨1, 0, 0⟩) rfl rfl rfl hm1 ?_
      intro u31 hu31
      have k31 := hu31.kp [m1] (.inl sI)
      have hBs := k31.blk (by simpa using fun e => n1s e.symm) hBs
      have hm2 := hm2.kp k31 (by simpa using fun e => n12 e.symm)
      have hm1 := hu31.at_
      have kk := kk.since k31 (by simp; omega)
      have hsblt : sb < u31.heap.size := Nat.lt_of_lt_of_le hsblt k31.size
      have hm1lt : m1 < u31.heap.size := Nat.lt_of_lt_of_le hm1lt k31.size
      have hm2lt : m2 < u31.heap.size := Nat.lt_of_lt_of_le hm2lt k31.size
      have kkz := kk
      refine Ja6 ⟨.inr kk, ?_⟩
      refine Ji9 [4] 4 kR kR kR kk ?_
      try dsimp only [List.map_cons, List.map_nil]
      refine zX ?_
      exact Jh7 kR (hleaf _ _ ⟨m1, m2, sb, rfl, kk, hm1, hm2, hBs, n12, n1s, n2s, m1n, m2n, sbn⟩)
   ·refine Je0 rfl rfl ?_
    intro m2 u32 e32 k32 z32 hm2
    have hBs := k32.b0 hBs
    have kk := kk.trans k32
    have m2n : w4.heap.size ≤ m2 := by have := kkz.size; omega
    have n2s : m2 ≠ sb := by have := hsblt; omega
    have hm2lt : m2 < u32.heap.size := oM
    have hsblt : sb < u32.heap.size := Nat.lt_of_lt_of_le hsblt k32.size
    have kkz := kk
    refine Ja6 ⟨.inr kk, ?_⟩
    refine Je4 1 kR rfl ?_
    ·refine Je0 rfl rfl ?_
     intro m1 u33 e33 k33 z33 hm1
     have hBs := k33.b0 hBs
     have hm2 := hm2.kp k33 sI
     have kk := kk.trans k33
     have m1n : w4.heap.size ≤ m1 := by have := kkz.size; omega
     have n12 : m1 ≠ m2 := by have := hm2lt; omega
     have n1s : m1 ≠ sb := by have := hsblt; omega
     have hm1lt : m1 < u33.heap.size := oM
     have hsblt : sb < u33.heap.size := Nat.lt_of_lt_of_le hsblt k33.size
     have hm2lt : m2 < u33.heap.size := Nat.lt_of_lt_of_le hm2lt k33.size
     have kkz := kk
     refine Ja6 ⟨.inr kk, ?_⟩
     refine Je4 3 kR rfl ?_
     ·refine Zi (k := 0) (v := stdV ⟨1, 0, 0⟩) rfl rfl rfl hm1 ?_
      intro u34 hu34
      have k34 := hu34.kp [m1] (.inl sI)
      have hBs := k34.blk (by simpa using fun e => n1s e.symm) hBs
      have hm2 := hm2.kp k34 (by simpa using fun e => n12 e.symm)
      have hm1 := hu34.at_
      have kk := kk.since k34 (by simp; omega)
      have hsblt : sb < u34.heap.size := Nat.lt_of_lt_of_le hsblt k34.size
      have hm1lt : m1 < u34.heap.size := Nat.lt_of_lt_of_le hm1lt k34.size
      have hm2lt : m2 < u34.heap.size := Nat.lt_of_lt_of_le hm2lt k34.size
      have kkz := kk
      refine Ja6 ⟨.inr kk, ?_⟩
      refine Ji9 [4] 4 kR kR kR kk ?_
      try dsimp only [List.map_cons, List.map_nil]
      refine zX ?_
      exact Jh7 kR (hleaf _ _ ⟨m1, m2, sb, rfl, kk, hm1, hm2, hBs, n12, n1s, n2s, m1n, m2n, sbn⟩)
end
end
end Go.Vc
