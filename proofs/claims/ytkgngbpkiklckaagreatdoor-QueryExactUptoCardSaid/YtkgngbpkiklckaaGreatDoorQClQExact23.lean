/- Parts of a proof. -/
import Derived.Test.YtkgngbpkiklckaaGreatDoorQClQExact22
set_option maxHeartbeats 12800000
namespace Go.Vc
open Go Go.Proofs
set_option maxRecDepth 20000
section
variable {w : World}
def thL (s : Shp) (c : Ck) : List Std := (List.range s.th.toNat).map fun t : Nat => st c t
def loL (s : Shp) (c : Ck) : List Int := (List.range s.lo.toNat).map fun l : Nat => (c.O l).getD (-1)
structure RG where
 p : Nat
 pad : Option Addr
 pcap : Nat
 tad : Option Addr
 tcap : Nat
 wad : Option Addr
 wcap : Nat
 oad : Option Addr
 ocap : Nat
def RG.F (g : RG) : List Nat := g.p :: (Ja1 g.pad ++ (Ja1 g.tad ++ (Ja1 g.wad ++ Ja1 g.oad)))
abbrev rgC (g : RG) (s : Shp) (c : Ck) : List Value := [I s.th, I s.va, I s.vo, I s.lo, .slice g.pad s.pa.length g.pcap, .slice g.tad s.th.toNat g.tcap, .slice g.wad s.lo.toNat g.wcap, .slice g.oad c.op.length g.ocap, I c.n]
structure RM (w : World) (g : RG) (s : Shp) (c : Ck) : Prop where
 hdr : Blk w g.p (rgC g s c) 210
 pa : OwnS w 3 1 g.pad s.pa.length g.pcap (s.pa.map I)
 th : OwnS w 136 3 g.tad s.th.toNat g.tcap ((thL s c).flatMap stdC)
 lo : OwnS w 3 1 g.wad s.lo.toNat g.wcap ((loL s c).map I)
 op : OwnS w 131 2 g.oad c.op.length g.ocap (c.op.flatMap opC2)
 nd : g.F.Nodup
structure RAt (w : World) (g : RG) (s : Shp) (c : Ck) : Prop extends RM w g s c where
 ok : CkOk s c
 nz : ∀ t x, c.T t = some x → x.ph ≠ 0
theorem RM.kp {w' : World} {S : List Nat} {g : RG} {s : Shp} {c : Ck} (h : RM w g s c) (hk : Kp S w w') (hS : ∀ b, b ∈ g.F → b ∉ S) : RM w' g s c where
 hdr := hk.blk (hS g.p (by simp [RG.F])) h.hdr
 pa := h.pa.kp hk (fun b hb => hS b (by simp [RG.F, hb]))
 th := h.th.kp hk (fun b hb => hS b (by simp [RG.F, hb]))
 lo := h.lo.kp hk (fun b hb => hS b (by simp [RG.F, hb]))
 op := h.op.kp hk (fun b hb => hS b (by simp [RG.F, hb]))
 nd := h.nd
theorem RAt.kp {w' : World} {S : List Nat} {g : RG} {s : Shp} {c : Ck} (h : RAt w g s c) (hk : Kp S w w') (hS : ∀ b, b ∈ g.F → b ∉ S) : RAt w' g s c := ⟨h.toRM.kp hk hS, h.ok, h.nz⟩
theorem RAt.kp0 {w' : World} {g : RG} {s : Shp} {c : Ck} (h : RAt w g s c) (hk : Kp [] w w') : RAt w' g s c := h.kp hk sI
theorem RAt.sm {w' : World} {g : RG} {s : Shp} {c : Ck} (h : RAt w g s c) (hk : Sm w w') : RAt w' g s c := h.kp0 (hk.kp [])
theorem RM.lt {g : RG} {s : Shp} {c : Ck} (h : RM w g s c) : ∀ b, b ∈ g.F → b < w.heap.size := by
 intro b hb
 simp only [RG.F, List.mem_cons, List.mem_append] at hb
 rcases hb with rfl | hb | hb | hb | hb
 ·exact h.hdr.lt
 ·exact h.pa.lt b hb
 ·exact h.th.lt b hb
 ·exact h.lo.lt b hb
 ·exact h.op.lt b hb
theorem Ju9 (s : Shp) (c : Ck) : (thL s c).length = s.th.toNat := by simp [thL]
theorem Qa6 (s : Shp) (c : Ck) : (loL s c).length = s.lo.toNat := by simp [loL]
theorem thL_get {s : Shp} {c : Ck} {t : Int} (h0 : 0 ≤ t) (h1 : t < s.th) : (thL s c)[t.toNat]? = some (st c t) := by
 unfold thL
 rw [List.getElem?_map, List.getElem?_range oM]
 have : ((t.toNat : Nat) : Int) = t := oM
 simp [this]
theorem loL_get {s : Shp} {c : Ck} {l : Int} (h0 : 0 ≤ l) (h1 : l < s.lo) : (loL s c)[l.toNat]? = some ((c.O l).getD (-1)) := by
 unfold loL
 rw [List.getElem?_map, List.getElem?_range oM]
 have : ((l.toNat : Nat) : Int) = l := oM
 simp [this]
section
variable {g : RG} {s : Shp} {c : Ck}
theorem RM.thr (h : RM w g s c) {t : Int} (h0 : 0 ≤ t) (h1 : t < s.th) : ∃ b L, g.tad = some ⟨b, 0, none⟩ ∧ Blk w b L 136 ∧ t.toNat * 3 + 3 ≤ L.length ∧ (∀ j v, (stdC (st c t))[j]? = some v → L[t.toNat * 3 + j]? = some v) ∧
  ∀ x w', Upd w b (.cells ⟨Jg0 L (t.toNat * 3) (stdC x)⟩ 136 (0, 0)) w' → OwnS w' 136 3 g.tad s.th.toNat g.tcap (((thL s c).set t.toNat x).flatMap stdC) := by
 have ho := h.th
 rw [← Ju9 s c] at ho
 obtain ⟨b, L, q1, q2, q3, q4, q5⟩ := ho.rec (fun _ => rfl) oM (i := t.toNat) (by rw [Ju9]; omega)
 refine ⟨b, L, q1, q2, q3, q4 _ (thL_get h0 h1), fun x w' hu => ?_⟩
 have := q5 x w' hu
 rwa [Ju9] at this
theorem RM.lok (h : RM w g s c) {l : Int} (h0 : 0 ≤ l) (h1 : l < s.lo) : ∃ b L, g.wad = some ⟨b, 0, none⟩ ∧ Blk w b L 3 ∧ l.toNat < L.length ∧ L[l.toNat]? = some (I ((c.O l).getD (-1))) ∧
  ∀ x w', Upd w b (.cells ⟨L.set l.toNat (I x)⟩ 3 (0, 0)) w' → OwnS w' 3 1 g.wad s.lo.toNat g.wcap (((loL s c).set l.toNat x).map I) := by
 have ho := h.lo
 rw [← Qa6 s c] at ho
 have e : ∀ l : List Int, l.map I = l.flatMap (fun x => [I x]) := fun l => List.map_eq_flatMap
 rw [e] at ho
 obtain ⟨b, L, q1, q2, q3, q4, q5⟩ := ho.rec (m := 1) (fun _ => rfl) oM (i := l.toNat) (by rw [Qa6]; omega)
 refine ⟨b, L, q1, q2, oM, by simpa using q4 _ (loL_get h0 h1) 0 _ rfl, fun x w' hu => ?_⟩
 have := q5 x w' (by rw [set1_many, Nat.mul_one]; exact hu)
 rw [Qa6] at this
 rw [e]; exact this
theorem RM.opn (h : RM w g s c) {i : Int} (h0 : 0 ≤ i) (h1 : i < c.op.length) : ∃ b L, g.oad = some ⟨b, 0, none⟩ ∧ Blk w b L 131 ∧ i.toNat * 2 + 2 ≤ L.length ∧ (∀ j v, (opC2 (opAt c i))[j]? = some v → L[i.toNat * 2 + j]? = some v) ∧
  ∀ x w', Upd w b (.cells ⟨Jg0 L (i.toNat * 2) (opC2 x)⟩ 131 (0, 0)) w' → OwnS w' 131 2 g.oad c.op.length g.ocap ((c.op.set i.toNat x).flatMap opC2) := by
 obtain ⟨b, L, q1, q2, q3, q4, q5⟩ := h.op.rec (fun _ => rfl) oM (i := i.toNat) oM
 exact ⟨b, L, q1, q2, q3, q4 _ (by unfold opAt; rw [List.getElem?_eq_getElem oM]; rfl), q5⟩
theorem Jy3 (i n : Int) : Ret Tryz.prog 99 [I i, I n] w (fun v w' => v = .bool (decide (0 ≤ i ∧ i < n)) ∧ w' = w) := by
 refine Ze Tryz.call99 Tryz.func99 ?_
 refine zS ?_
 by_cases h : 0 ≤ i
 ·refine o_is true 2 true rfl rfl rfl (by simp [h]) ?_
  refine zS ?_
  exact ⟨_, rfl, by simp [h], rfl⟩
 ·refine o_is false 2 true rfl rfl rfl (by simp [h]) ?_
  refine zS ?_
  exact ⟨_, rfl, by simp [h], rfl⟩
theorem Jo4 (i n : Int) {C : World → Prop} : ∀ w1, C w1 → Ret Tryz.prog 99 [I i, I n] w1 (fun v w' => v = .bool (decide (0 ≤ i ∧ i < n)) ∧ C w') :=
 fun _ hc => (Jy3 i n).mono fun _ _ ⟨h1, h2⟩ => ⟨h1, by rw [h2]; exact hc⟩
theorem Jw7 (n : Int) : Ret Tryz.prog 98 [I n] w (fun v w' => v = .bool (decide (0 ≤ n ∧ n ≤ 4096)) ∧ w' = w) := by
 refine Ze Tryz.call98 Tryz.func98 ?_
 refine zS ?_
 by_cases h : 0 ≤ n
 ·refine o_is true 2 true rfl rfl rfl (by simp [h]) ?_
  refine zS ?_
  exact ⟨_, rfl, by simp [h], rfl⟩
 ·refine o_is false 2 true rfl rfl rfl (by simp [h]) ?_
  refine zS ?_
  exact ⟨_, rfl, by simp [h], rfl⟩
theorem Qm6 {pad : Option Addr} {cap : Nat} (h : Ja7 w pad (s.pa.map I)) (hl : s.pa.length ≤ 1048576) :
  Ret Tryz.prog 49 [.agg ⟨shC s pad cap⟩] w (fun v w' => v = I (if Jf2 s = true then 0 else 5) ∧ Kp [] w w') := by
 have bad : ¬ Jq7 s → (if Jf2 s = true then (0 : Int) else 5) = 5 := fun hn => by rw [if_neg (fun h => hn ((Jh5 s).1 h))]
 refine Ze Tryz.call49 Tryz.func49 ?_
 refine zS ?_
 refine Zx ?_
 intro bx w1 hbx hu1
 have hB : Blk w1 bx (shC s pad cap) 27 := hu1.blk
 have k1 : Kp [] w w1 := hu1.new oM
 have hr := h.kp k1 sI
 refine zS ?_
 refine Zl (v := I s.th) rfl hB ?_
 refine zS ?_
 by_cases h1 : s.th < 1
 ·refine o_is true 3 false rfl rfl rfl (by simp [h1]) ?_
  refine zS ?_
  exact ⟨_, rfl, by rw [bad (fun h => by have := h.1.1; omega)], k1⟩
 refine o_is false 3 false rfl rfl rfl (by simp [h1]) ?_
 refine zS ?_
 refine Zl (v := I s.th) rfl hB ?_
 refine zS ?_
 by_cases h2 : 65535 < s.th
 ·refine o_is true 8 false rfl rfl rfl (by simp [h2]) ?_
  refine zS ?_
  exact ⟨_, rfl, by rw [bad (fun h => by have := h.1.2; omega)], k1⟩
 refine o_is false 8 false rfl rfl rfl (by simp [h2]) ?_
 refine zS ?_
 refine Zl (v := I s.va) rfl hB ?_
 refine zS ?_
 refine Zc (Jw7 s.va) ?_
 rintro _ wx ⟨rfl, rfl⟩
 refine zS ?_
 by_cases h3 : 0 ≤ s.va ∧ s.va ≤ 4096
 rotate_left
 ·refine o_is true 14 false rfl rfl rfl (by simp; omega) ?_
  refine zS ?_
  exact ⟨_, rfl, by rw [bad (fun h => h3 h.2.1)], k1⟩
 refine o_is false 14 false rfl rfl rfl (by simpa using h3) ?_
 refine zS ?_
 refine Zl (v := I s.vo) rfl hB ?_
 refine zS ?_
 refine Zc (Jw7 s.vo) ?_
 rintro _ wx ⟨rfl, rfl⟩
 refine zS ?_
 by_cases h4 : 0 ≤ s.vo ∧ s.vo ≤ 4096
 rotate_left
 ·refine o_is true 20 false rfl rfl rfl (by simp; omega) ?_
  refine zS ?_
  exact ⟨_, rfl, by rw [bad (fun h => h4 h.2.2.1)], k1⟩
 refine o_is false 20 false rfl rfl rfl (by simpa using h4) ?_
 refine zS ?_
 refine Zl (v := I s.lo) rfl hB ?_
 refine zS ?_
 refine Zc (Jw7 s.lo) ?_
 rintro _ wx ⟨rfl, rfl⟩
 refine zS ?_
 by_cases h5 : 0 ≤ s.lo ∧ s.lo ≤ 4096
 rotate_left
 ·refine o_is true 26 false rfl rfl rfl (by simp; omega) ?_
  refine zS ?_
  exact ⟨_, rfl, by rw [bad (fun h => h5 h.2.2.2.1)], k1⟩
 refine o_is false 26 false rfl rfl rfl (by simpa using h5) ?_
 refine zS ?_
 refine Zl (v := .slice pad s.pa.length cap) rfl hB ?_
 refine zS ?_
 refine Zc (Jw7 s.pa.length) ?_
 rintro _ wx ⟨rfl, rfl⟩
 refine zS ?_
 by_cases h6 : s.pa.length ≤ 4096
 rotate_left
 ·refine Jf7 rfl (by simp; omega) ?_
  refine zS ?_
  exact ⟨_, rfl, by rw [bad (fun h => h6 h.2.2.2.2.1)], k1⟩
 refine r_no rfl (by simp; omega) ?_
 refine zS ?_
 refine Jb4 (α := Nat) [1, 3] (fun i => [ptr bx, I i]) (fun i w1 => wx = w1 ∧ i ≤ s.pa.length ∧ (s.pa.take i).all Jj5 = true) (fun i => s.pa.length - i) 0 rfl ⟨rfl, oM, rfl⟩ ?_
 rintro i e _ ⟨rfl, hi, hall⟩
 refine zS ?_
 refine Zl (v := .slice pad s.pa.length cap) rfl hB ?_
 refine zS ?_
 refine r_if rfl (fun hc => ?_) (fun hc => ?_)
 ·have hlt : i < s.pa.length := oM
  obtain ⟨x, hx⟩ : ∃ x, s.pa[i]? = some x := ⟨_, List.getElem?_eq_getElem hlt⟩
  obtain ⟨b, off, rfl, _, hcell⟩ := hr.at_ (by simp; omega)
  have hcx := hcell i _ (by rw [List.getElem?_map, hx]; rfl)
  have hno : Jj5 x = false → (if Jf2 s = true then (0 : Int) else 5) = 5 := fun hp => bad fun h => by
   have := h.2.2.2.2.2 x (List.mem_of_getElem? hx)
   unfold Jj5 at hp
   simp only [decide_eq_false_iff_not] at hp
   exact hp this
  refine zS ?_
  refine Zl (v := .slice (some ⟨b, off, none⟩) s.pa.length cap) rfl hB ?_
  refine zS ?_
  refine Zo (v := I x) rfl hcx ?_
  refine zS ?_
  by_cases h7 : x < 1
  ·refine o_is true 6 false rfl rfl rfl (by simp [h7]) ?_
   refine zS ?_
   exact ⟨_, rfl, by rw [hno (by unfold Jj5; simp; omega)], k1⟩
  refine o_is false 6 false rfl rfl rfl (by simp [h7]) ?_
  refine zS ?_
  refine Zl (v := .slice (some ⟨b, off, none⟩) s.pa.length cap) rfl hB ?_
  refine zS ?_
  refine Zo (v := I x) rfl hcx ?_
  refine zS ?_
  refine r_if rfl (fun hc8 => ?_) (fun hc8 => ?_)
  ·refine zS ?_
   exact ⟨_, rfl, by rw [hno (by unfold Jj5; simp; omega)], k1⟩
  ·refine zS ?_
   refine ⟨i + 1, rfl, ⟨rfl, oM, ?_⟩, oM⟩
   rw [List.take_add_one, hx, List.all_append, hall]
   have : Jj5 x = true := by unfold Jj5; simp; omega
   simp [this]
 ·have hin : i = s.pa.length := oM
  subst hin
  rw [List.take_length] at hall
  refine zS ?_
  refine ⟨_, rfl, ?_, k1⟩
  rw [if_pos]
  rw [Jh5]
  refine ⟨oM, h3, h4, h5, h6, fun x hx => ?_⟩
  have := List.all_eq_true.1 hall x hx
  unfold Jj5 at this
  simpa using this
theorem rFull_ret (h : RAt w g s c) (t : Int) : Ret Tryz.prog 100 [ptr g.p, I t] w (fun v w' => v = .bool (fullB c t) ∧ Kp [] w w') := by
 have hth := h.ok.sh.1
 refine Ze Tryz.call100 Tryz.func100 ?_
 refine zS ?_
 refine Zl (v := .slice g.tad s.th.toNat g.tcap) rfl h.hdr ?_
 refine zS ?_
 refine Zc (Jy3 t s.th.toNat) ?_
 rintro _ wx ⟨rfl, rfl⟩
 refine zS ?_
 by_cases ht : 0 ≤ t ∧ t < s.th
 rotate_left
 ·refine Jf7 rfl (by simp; omega) ?_
  refine zS ?_
  refine ⟨_, rfl, ?_, Kp.refl _ _⟩
  have : c.T t = none := by
   cases hT : c.T t with
   | none => rfl
   | some x => exact absurd (h.ok.T t x hT).1 ht
  unfold fullB st
  rw [this]; rfl
 refine r_no rfl (by simp; omega) ?_
 obtain ⟨b, L, hb, hL, hlen, hget, _⟩ := h.thr ht.1 ht.2
 have hh := h.hdr
 rw [show rgC g s c = [I s.th, I s.va, I s.vo, I s.lo, .slice g.pad s.pa.length g.pcap, .slice (some ⟨b, 0, none⟩) s.th.toNat g.tcap, .slice g.wad s.lo.toNat g.wcap, .slice g.oad c.op.length g.ocap, I c.n] by rw [rgC, hb]] at hh
 refine zS ?_
 refine Zl (v := .slice (some ⟨b, 0, none⟩) s.th.toNat g.tcap) rfl hh ?_
 refine zS ?_
 refine Zm (vs := stdC (st c t)) rfl (fun j v hv => ?_) ?_
 ·rw [Nat.zero_add]; exact hL.cell (hget j v hv)
 refine zS ?_
 refine Za ?_
 intro bt w1 hbt hu1
 refine Zs (cs := stdC (st c t)) rfl hu1.blk lR rfl (by simp [Value.oneCell']) ?_
 intro w2 hu2
 have k2 : Kp [] wx w2 := (hu1.new oM).since (hu2.kp [bt] (.inl sI)) (by simp; omega)
 have hBt : Blk w2 bt (stdC (st c t)) 136 := hu2.blk
 have h2 := h.kp0 k2
 refine zS ?_
 refine Ja9 ?_
 refine Jd1 Ja0 kR ?_
 refine zQ ?_
 refine Zq (v := I (st c t).ph) rfl (fun w hs => (hs.blk hBt).cell rfl) ?_
 refine zQ ?_
 by_cases hp : (st c t).ph = 2
 ·obtain ⟨hb1, hb2⟩ := st_ba h.ok hp
  obtain ⟨ob, L2, hoad, hL2, hlen2, hget2, _⟩ := h2.opn hb1 hb2
  have hh2 := h2.hdr
  rw [show rgC g s c = [I s.th, I s.va, I s.vo, I s.lo, .slice g.pad s.pa.length g.pcap, .slice g.tad s.th.toNat g.tcap, .slice g.wad s.lo.toNat g.wcap, .slice (some ⟨ob, 0, none⟩) c.op.length g.ocap, I c.n] by rw [rgC, hoad]] at hh2
  refine q_is true 3 true rfl rfl rfl (by simp [hp]) ?_
  refine zQ ?_
  refine Zq (v := I (st c t).ro) rfl (fun w hs => (hs.blk hBt).cell rfl) ?_
  refine zQ ?_
  refine Zq (v := .slice (some ⟨ob, 0, none⟩) c.op.length g.ocap) rfl (fun w hs => (hs.blk hh2).cell rfl) ?_
  refine zQ ?_
  refine Zq (v := I (st c t).ba) rfl (fun w hs => (hs.blk hBt).cell rfl) ?_
  refine zQ ?_
  refine Zq (b := ob) (off := (st c t).ba.toNat * 2) (v := I (opAt c (st c t).ba).1) ?_ (fun w hs => (hs.blk hL2).cell (hget2 0 _ rfl)) ?_
  ·show Value.pointer (some ⟨ob, 0 + (st c t).ba.toNat * 2, none⟩) = _
   rw [Nat.zero_add]
  refine zQ ?_
  intro w3 hs3
  refine zS ?_
  exact ⟨_, rfl, by simp [fullB, hp], k2.trans (hs3.kp [])⟩
 ·refine q_is false 3 true rfl rfl rfl (by simp [hp]) ?_
  refine zQ ?_
  intro w3 hs3
  refine zS ?_
  exact ⟨_, rfl, by simp [fullB, hp], k2.trans (hs3.kp [])⟩
end
end
section
variable {w : World}
section
variable {g : RG} {s : Shp} {c : Ck}
theorem st_out (h : CkOk s c) {t : Int} (ht : ¬ (0 ≤ t ∧ t < s.th)) : st c t = ⟨0, 0, 0⟩ := by
 have : c.T t = none := by
  cases hT : c.T t with
  | none => rfl
  | some x => exact absurd (h.T t x hT).1 ht
 unfold st; rw [this]; rfl
theorem own_none (h : CkOk s c) {l : Int} : (c.O l).getD (-1) = -1 ↔ c.O l = none := by
 cases hO : c.O l with
 | none => simp
 | some x => have := (h.O l x hO).2; simp; omega
theorem own_some (h : CkOk s c) {l t : Int} (ht : 0 ≤ t) : (c.O l).getD (-1) = t ↔ c.O l = some t := by
 cases hO : c.O l with
 | none => simp; omega
 | some x => simp
theorem can_wait {x : Ev} (h : (st c x.t).ph = 2) : canB s c x = (decide (x.k = 10) && (decide (x.o = (st c x.t).ba) && fullB c x.t)) := by
 unfold canB
 rw [if_pos h]
 by_cases h1 : x.k = 10
 ·by_cases h2 : x.o = (st c x.t).ba
  ·simp [h1, h2]
  ·simp [h1, h2]
 ·simp [h1]
theorem can_off {x : Ev} (h2 : (st c x.t).ph ≠ 2) (h1 : (st c x.t).ph ≠ 1) : canB s c x = false := by
 unfold canB
 rw [if_neg h2, if_pos h1]
theorem can_run {x : Ev} (h1 : (st c x.t).ph = 1) : canB s c x = (decide (0 ≤ x.o) && (
  if x.k = 2 then decide (x.o < s.va)
  else if x.k = 1 then decide (x.o < s.va)
  else if x.k = 4 then decide (x.o < s.vo)
  else if x.k = 3 then decide (x.o < s.vo)
  else if x.k = 6 then (if c.O x.o = some x.t then decide (x.o < s.lo) else false)
  else if x.k = 5 then (if c.O x.o = none then decide (x.o < s.lo) else false)
  else if x.k = 7 then (if (st c x.o).ph = 0 then decide (x.o < s.th) else false)
  else if x.k = 8 then (if (st c x.o).ph = 3 then decide (x.o < s.th) else false)
  else if x.k = 9 then decide (x.o < c.op.length)
  else if x.k = 11 then decide (x.o < 1)
  else false)) := by
 unfold canB
 rw [if_neg oM, if_neg oM]
 by_cases h0 : x.o < 0
 ·rw [if_pos h0, decide_eq_false (show ¬ 0 ≤ x.o by omega), Bool.false_and]
 ·rw [if_neg h0, decide_eq_true (show 0 ≤ x.o by omega), Bool.true_and]
theorem Qd4 (h : RAt w g s c) (x : Ev) : Ret Tryz.prog 51 [ptr g.p, .agg ⟨evC x⟩] w (fun v w' => v = .bool (canB s c x) ∧ Kp [] w w') := by
 have hth := h.ok.sh.1
 have hlo := h.ok.sh.2.2.2.1
 have hop := h.ok.op
 have hpa := h.ok.sh.2.2.2.2.1
 refine Ze Tryz.call51 Tryz.func51 ?_
 refine zS ?_
 refine Zx ?_
 intro bx w1 hbx hu1
 have hB1 : Blk w1 bx (evC x) 86 := hu1.blk
 have k1 : Kp [] w w1 := hu1.new oM
 have h1 := h.kp0 k1
 refine zS ?_
 refine Ja9 ?_
 refine Ja9 ?_
 refine Jd1 Ja0 kR ?_
 refine zQ ?_
 refine Zq (v := I x.t) rfl (fun w hs => (hs.blk hB1).cell rfl) ?_
 refine zQ ?_
 refine Zq (v := .slice g.tad s.th.toNat g.tcap) rfl (fun w hs => (hs.blk h1.hdr).cell rfl) ?_
 refine zQ ?_
 refine Zk _ (Jo4 x.t s.th.toNat) Tryz.call99 ?_
 refine zQ ?_
 intro w2 hs2
 have h2 := h1.sm hs2
 have hB2 := hs2.blk hB1
 have k2 := k1.trans (hs2.kp [])
 by_cases ht : 0 ≤ x.t ∧ x.t < s.th
 rotate_left
 ·refine Jf7 rfl (by simp; omega) ?_
  refine zS ?_
  refine ⟨_, rfl, ?_, k2⟩
  have := st_out h.ok ht
  rw [can_off (by rw [this]; simp) (by rw [this]; simp)]
 refine r_no rfl (by simp; omega) ?_
 obtain ⟨tb, TL, hta, hTL, hTlen, hTget, _⟩ := h2.thr ht.1 ht.2
 have hh := h2.hdr
 refine zS ?_
 refine Ja9 ?_
 refine Jd8 (α := Nat) [0, 3, 5] (fun bt => [ptr g.p, ptr bx, ptr bt]) (fun bt w' => Kp [] w2 w' ∧ Blk w' bt (stdC (st c x.t)) 136) ?_ ?_
 ·refine Jo6 (fun w' => Kp [] w2 w') [(0, false), (1, false), (2, false), (3, false), (4, false), (5, false), (6, false), (7, false), (8, true), (9, true)] Ja0 kR kR kR ((Sm.drew w2).kp []) ?_
  have kd := (Sm.drew w2).kp []
  generalize ({ w2 with drawn := w2.drawn + 1 } : World) = wd at kd ⊢
  refine zX ?_
  refine Zy (v := .slice (some ⟨tb, 0, none⟩) s.th.toNat g.tcap) rfl rfl (fun w' h' => (h'.b0 hh).cell (by rw [rgC, hta]; rfl)) ?_
  refine zX ?_
  refine Zy (v := I x.t) rfl rfl (fun w' h' => (h'.b0 hB2).cell rfl) ?_
  refine zX ?_
  refine Zz (vs := stdC (st c x.t)) rfl rfl (fun w' h' j v hv => by rw [Nat.zero_add]; exact (h'.b0 hTL).cell (hTget j v hv)) ?_
  refine zX ?_
  refine Jh2 rfl ?_
  refine Za ?_
  intro bt w3 hbt hu3
  have k3 := kd.trans (hu3.new oM)
  refine Ja6 ⟨.inr k3, ?_⟩
  refine zX ?_
  refine Jh2 rfl ?_
  refine Zs (cs := stdC (st c x.t)) rfl hu3.blk lR rfl (by simp [Value.oneCell']) ?_
  intro w4 hu4
  have z2 := kd.size
  have k4 : Kp [] w2 w4 := k3.since (hu4.kp [bt] (.inl sI)) (by simp; omega)
  refine Ja6 ⟨.inl kR, ?_⟩
  refine zX ?_
  exact ⟨bt, rfl, k4, hu4.blk⟩
 rintro bt e w3 ⟨k23, hBt⟩
 have h3 := h2.kp0 k23
 have hB3 := k23.b0 hB2
 have k3 := k2.trans k23
 have hh3 := h3.hdr
 refine zS ?_
 refine Zl (v := I (st c x.t).ph) rfl hBt ?_
 refine zS ?_
 refine r_if (p := (st c x.t).ph = 2) rfl (fun hp2 => ?_) (fun hp2 => ?_)
 ·refine zS ?_
  refine Zl (v := I x.k) rfl hB3 ?_
  refine zS ?_
  by_cases hk : x.k = 10
  ·refine o_is true 3 true rfl rfl rfl (by simp [hk]) ?_
   refine zS ?_
   refine Zl (v := I x.o) rfl hB3 ?_
   refine zS ?_
   refine Zl (v := I (st c x.t).ba) rfl hBt ?_
   refine zS ?_
   by_cases ho : x.o = (st c x.t).ba
   ·refine o_is true 10 true rfl rfl rfl (by simp [ho]) ?_
    refine zS ?_
    refine Zl (v := I x.t) rfl hB3 ?_
    refine zS ?_
    refine Zc (rFull_ret h3 x.t) ?_
    rintro v w5 ⟨rfl, k5⟩
    refine zS ?_
    exact ⟨_, rfl, by rw [can_wait hp2]; simp [hk, ho], k3.trans k5⟩
   ·refine o_is false 10 true rfl rfl rfl (by simp [ho]) ?_
    refine zS ?_
    exact ⟨_, rfl, by rw [can_wait hp2]; simp [ho], k3⟩
  ·refine o_is false 3 true rfl rfl rfl (by simp [hk]) ?_
   refine zS ?_
   exact ⟨_, rfl, by rw [can_wait hp2]; simp [hk], k3⟩
 refine zS ?_
 refine Zl (v := I (st c x.t).ph) rfl hBt ?_
 refine zS ?_
 by_cases hp1 : (st c x.t).ph = 1
 rotate_left
 ·refine Jf7 rfl (by simp [hp1]) ?_
  refine zS ?_
  exact ⟨_, rfl, by rw [can_off hp2 hp1], k3⟩
 refine r_no rfl (by simp [hp1]) ?_
 have e0 := can_run (s := s) hp1
 refine zS ?_
 refine Zl (v := I x.k) rfl hB3 ?_
 refine zS ?_
 have lf : ∀ {n : Int} {p : Prop} [Decidable p], ¬ (0 ≤ x.o ∧ x.o < n) → (decide (0 ≤ x.o) && (if p then decide (x.o < n) else false)) = false := fun hn => by
  split
  ·by_cases h0 : 0 ≤ x.o
   ·rw [decide_eq_false (show ¬ x.o < _ by omega), Bool.and_false]
   ·rw [decide_eq_false h0, Bool.false_and]
  ·rw [Bool.and_false]
 have lt : ∀ {n : Int} {p : Prop} [Decidable p], (0 ≤ x.o ∧ x.o < n) → (decide (0 ≤ x.o) && (if p then decide (x.o < n) else false)) = decide p := fun hn => by
  rw [decide_eq_true hn.1, Bool.true_and]
  split
  ·rename_i hp; rw [decide_eq_true hn.2, decide_eq_true hp]
  ·rename_i hp; rw [decide_eq_false hp]
 by_cases hk1 : x.k = 1
 ·refine Jf7 rfl (by simp [hk1]) ?_
  refine zS ?_
  refine Jf7 rfl (by simp [hk1]) ?_
  refine Ja9 ?_
  refine Jd1 Ja0 kR ?_
  refine zQ ?_
  refine Zq (v := I x.o) rfl (fun w hs => (hs.blk hB3).cell rfl) ?_
  refine zQ ?_
  refine Zq (v := I s.va) rfl (fun w hs => (hs.blk hh3).cell rfl) ?_
  refine zQ ?_
  refine Zk _ (Jo4 x.o s.va) Tryz.call99 ?_
  refine zQ ?_
  intro w4 hs4
  refine zS ?_
  exact ⟨_, rfl, by rw [e0]; simp [hk1], k3.trans (hs4.kp [])⟩
 refine r_no rfl (by simp [hk1]) ?_
 refine zS ?_
 by_cases hk2 : x.k = 2
 ·refine Jf7 rfl (by simp [hk2]) ?_
  refine Ja9 ?_
  refine Jd1 Ja0 kR ?_
  refine zQ ?_
  refine Zq (v := I x.o) rfl (fun w hs => (hs.blk hB3).cell rfl) ?_
  refine zQ ?_
  refine Zq (v := I s.va) rfl (fun w hs => (hs.blk hh3).cell rfl) ?_
  refine zQ ?_
  refine Zk _ (Jo4 x.o s.va) Tryz.call99 ?_
  refine zQ ?_
  intro w4 hs4
  refine zS ?_
  exact ⟨_, rfl, by rw [e0]; simp [hk2], k3.trans (hs4.kp [])⟩
 refine r_no rfl (by simp [hk2]) ?_
 refine zS ?_
 by_cases hk3 : x.k = 3
 ·refine Jf7 rfl (by simp [hk3]) ?_
  refine zS ?_
  refine Jf7 rfl (by simp [hk3]) ?_
  refine Ja9 ?_
  refine Jd1 Ja0 kR ?_
  refine zQ ?_
  refine Zq (v := I x.o) rfl (fun w hs => (hs.blk hB3).cell rfl) ?_
  refine zQ ?_
  refine Zq (v := I s.vo) rfl (fun w hs => (hs.blk hh3).cell rfl) ?_
  refine zQ ?_
  refine Zk _ (Jo4 x.o s.vo) Tryz.call99 ?_
  refine zQ ?_
  intro w4 hs4
  refine zS ?_
  exact ⟨_, rfl, by rw [e0]; simp [hk3], k3.trans (hs4.kp [])⟩
 refine r_no rfl (by simp [hk3]) ?_
 refine zS ?_
 by_cases hk4 : x.k = 4
 ·refine Jf7 rfl (by simp [hk4]) ?_
  refine Ja9 ?_
  refine Jd1 Ja0 kR ?_
  refine zQ ?_
  refine Zq (v := I x.o) rfl (fun w hs => (hs.blk hB3).cell rfl) ?_
  refine zQ ?_
  refine Zq (v := I s.vo) rfl (fun w hs => (hs.blk hh3).cell rfl) ?_
  refine zQ ?_
  refine Zk _ (Jo4 x.o s.vo) Tryz.call99 ?_
  refine zQ ?_
  intro w4 hs4
  refine zS ?_
  exact ⟨_, rfl, by rw [e0]; simp [hk4], k3.trans (hs4.kp [])⟩
 refine r_no rfl (by simp [hk4]) ?_
 refine zS ?_
 by_cases hk5 : x.k = 5
 ·refine Jf7 rfl (by simp [hk5]) ?_
  refine Ja9 ?_
  refine Jd1 Ja0 kR ?_
  refine zQ ?_
  refine Zq (v := I x.o) rfl (fun w hs => (hs.blk hB3).cell rfl) ?_
  refine zQ ?_
  refine Zq (v := .slice g.wad s.lo.toNat g.wcap) rfl (fun w hs => (hs.blk hh3).cell rfl) ?_
  refine zQ ?_
  refine Zk _ (Jo4 x.o s.lo.toNat) Tryz.call99 ?_
  refine zQ ?_
  by_cases hin : 0 ≤ x.o ∧ x.o < s.lo
  rotate_left
  ·refine q_is false 8 true rfl rfl rfl (by simp; omega) ?_
   refine zQ ?_
   intro w4 hs4
   refine zS ?_
   exact ⟨_, rfl, by rw [e0]; simp only [hk5, if_true, if_false, reduceIte, Int.reduceEq]; rw [lf hin], k3.trans (hs4.kp [])⟩
  obtain ⟨ob, OL, hoa, hOL, hOlen, hOget, _⟩ := h3.lok hin.1 hin.2
  refine q_is true 8 true rfl rfl rfl (by simp; omega) ?_
  refine zQ ?_
  refine Zq (v := .slice (some ⟨ob, 0, none⟩) s.lo.toNat g.wcap) rfl (fun w hs => (hs.blk hh3).cell (by rw [rgC, hoa]; rfl)) ?_
  refine zQ ?_
  refine Zq (v := I x.o) rfl (fun w hs => (hs.blk hB3).cell rfl) ?_
  refine zQ ?_
  refine Zq (b := ob) (off := x.o.toNat) (v := I ((c.O x.o).getD (-1))) (by show Value.pointer (some ⟨ob, 0 + x.o.toNat, none⟩) = _; rw [Nat.zero_add]) (fun w hs => (hs.blk hOL).cell hOget) ?_
  refine zQ ?_
  intro w4 hs4
  refine zS ?_
  exact ⟨_, rfl, by rw [e0]; simp only [hk5, if_true, if_false, reduceIte, Int.reduceEq]; rw [lt hin]; simp only [own_none h.ok], k3.trans (hs4.kp [])⟩
 refine r_no rfl (by simp [hk5]) ?_
 refine zS ?_
 by_cases hk6 : x.k = 6
 ·refine Jf7 rfl (by simp [hk6]) ?_
  refine Ja9 ?_
  refine Jd1 Ja0 kR ?_
  refine zQ ?_
  refine Zq (v := I x.o) rfl (fun w hs => (hs.blk hB3).cell rfl) ?_
  refine zQ ?_
  refine Zq (v := .slice g.wad s.lo.toNat g.wcap) rfl (fun w hs => (hs.blk hh3).cell rfl) ?_
  refine zQ ?_
  refine Zk _ (Jo4 x.o s.lo.toNat) Tryz.call99 ?_
  refine zQ ?_
  by_cases hin : 0 ≤ x.o ∧ x.o < s.lo
  rotate_left
  ·refine q_is false 8 true rfl rfl rfl (by simp; omega) ?_
   refine zQ ?_
   intro w4 hs4
   refine zS ?_
   exact ⟨_, rfl, by rw [e0]; simp only [hk6, if_true, if_false, reduceIte, Int.reduceEq]; rw [lf hin], k3.trans (hs4.kp [])⟩
  obtain ⟨ob, OL, hoa, hOL, hOlen, hOget, _⟩ := h3.lok hin.1 hin.2
  refine q_is true 8 true rfl rfl rfl (by simp; omega) ?_
  refine zQ ?_
  refine Zq (v := .slice (some ⟨ob, 0, none⟩) s.lo.toNat g.wcap) rfl (fun w hs => (hs.blk hh3).cell (by rw [rgC, hoa]; rfl)) ?_
  refine zQ ?_
  refine Zq (v := I x.o) rfl (fun w hs => (hs.blk hB3).cell rfl) ?_
  refine zQ ?_
  refine Zq (b := ob) (off := x.o.toNat) (v := I ((c.O x.o).getD (-1))) (by show Value.pointer (some ⟨ob, 0 + x.o.toNat, none⟩) = _; rw [Nat.zero_add]) (fun w hs => (hs.blk hOL).cell hOget) ?_
  refine zQ ?_
  refine Zq (v := I x.t) rfl (fun w hs => (hs.blk hB3).cell rfl) ?_
  refine zQ ?_
  intro w4 hs4
  refine zS ?_
  exact ⟨_, rfl, by rw [e0]; simp only [hk6, if_true, if_false, reduceIte, Int.reduceEq]; rw [lt hin]; simp only [own_some h.ok ht.1], k3.trans (hs4.kp [])⟩
 refine r_no rfl (by simp [hk6]) ?_
 refine zS ?_
 by_cases hk7 : x.k = 7
 ·refine Jf7 rfl (by simp [hk7]) ?_
  refine Ja9 ?_
  refine Jd1 Ja0 kR ?_
  refine zQ ?_
  refine Zq (v := I x.o) rfl (fun w hs => (hs.blk hB3).cell rfl) ?_
  refine zQ ?_
  refine Zq (v := .slice g.tad s.th.toNat g.tcap) rfl (fun w hs => (hs.blk hh3).cell rfl) ?_
  refine zQ ?_
  refine Zk _ (Jo4 x.o s.th.toNat) Tryz.call99 ?_
  refine zQ ?_
  by_cases hin : 0 ≤ x.o ∧ x.o < s.th
  rotate_left
  ·refine q_is false 8 true rfl rfl rfl (by simp; omega) ?_
   refine zQ ?_
   intro w4 hs4
   refine zS ?_
   exact ⟨_, rfl, by rw [e0]; simp only [hk7, if_true, if_false, reduceIte, Int.reduceEq]; rw [lf hin], k3.trans (hs4.kp [])⟩
  obtain ⟨ob, OL, hoa, hOL, hOlen, hOget, _⟩ := h3.thr hin.1 hin.2
  refine q_is true 8 true rfl rfl rfl (by simp; omega) ?_
  refine zQ ?_
  refine Zq (v := .slice (some ⟨ob, 0, none⟩) s.th.toNat g.tcap) rfl (fun w hs => (hs.blk hh3).cell (by rw [rgC, hoa]; rfl)) ?_
  refine zQ ?_
  refine Zq (v := I x.o) rfl (fun w hs => (hs.blk hB3).cell rfl) ?_
  refine zQ ?_
  refine Zq (b := ob) (off := x.o.toNat * 3) (v := I (st c x.o).ph) (by show Value.pointer (some ⟨ob, 0 + x.o.toNat * 3, none⟩) = _; rw [Nat.zero_add]) (fun w hs => (hs.blk hOL).cell (hOget 0 _ rfl)) ?_
  refine zQ ?_
  intro w4 hs4
  refine zS ?_
  exact ⟨_, rfl, by rw [e0]; simp only [hk7, if_true, if_false, reduceIte, Int.reduceEq]; rw [lt hin], k3.trans (hs4.kp [])⟩
 refine r_no rfl (by simp [hk7]) ?_
 refine zS ?_
 by_cases hk8 : x.k = 8
 ·refine Jf7 rfl (by simp [hk8]) ?_
  refine Ja9 ?_
  refine Jd1 Ja0 kR ?_
  refine zQ ?_
  refine Zq (v := I x.o) rfl (fun w hs => (hs.blk hB3).cell rfl) ?_
  refine zQ ?_
  refine Zq (v := .slice g.tad s.th.toNat g.tcap) rfl (fun w hs => (hs.blk hh3).cell rfl) ?_
  refine zQ ?_
  refine Zk _ (Jo4 x.o s.th.toNat) Tryz.call99 ?_
  refine zQ ?_
  by_cases hin : 0 ≤ x.o ∧ x.o < s.th
  rotate_left
  ·refine q_is false 8 true rfl rfl rfl (by simp; omega) ?_
   refine zQ ?_
   intro w4 hs4
   refine zS ?_
   exact ⟨_, rfl, by rw [e0]; simp only [hk8, if_true, if_false, reduceIte, Int.reduceEq]; rw [lf hin], k3.trans (hs4.kp [])⟩
  obtain ⟨ob, OL, hoa, hOL, hOlen, hOget, _⟩ := h3.thr hin.1 hin.2
  refine q_is true 8 true rfl rfl rfl (by simp; omega) ?_
  refine zQ ?_
  refine Zq (v := .slice (some ⟨ob, 0, none⟩) s.th.toNat g.tcap) rfl (fun w hs => (hs.blk hh3).cell (by rw [rgC, hoa]; rfl)) ?_
  refine zQ ?_
  refine Zq (v := I x.o) rfl (fun w hs => (hs.blk hB3).cell rfl) ?_
  refine zQ ?_
  refine Zq (b := ob) (off := x.o.toNat * 3) (v := I (st c x.o).ph) (by show Value.pointer (some ⟨ob, 0 + x.o.toNat * 3, none⟩) = _; rw [Nat.zero_add]) (fun w hs => (hs.blk hOL).cell (hOget 0 _ rfl)) ?_
  refine zQ ?_
  intro w4 hs4
  refine zS ?_
  exact ⟨_, rfl, by rw [e0]; simp only [hk8, if_true, if_false, reduceIte, Int.reduceEq]; rw [lt hin], k3.trans (hs4.kp [])⟩
 refine r_no rfl (by simp [hk8]) ?_
 refine zS ?_
 by_cases hk9 : x.k = 9
 ·refine Jf7 rfl (by simp [hk9]) ?_
  refine Ja9 ?_
  refine Jd1 Ja0 kR ?_
  refine zQ ?_
  refine Zq (v := I x.o) rfl (fun w hs => (hs.blk hB3).cell rfl) ?_
  refine zQ ?_
  refine Zq (v := .slice g.oad c.op.length g.ocap) rfl (fun w hs => (hs.blk hh3).cell rfl) ?_
  refine zQ ?_
  refine Zk _ (Jo4 x.o c.op.length) Tryz.call99 ?_
  refine zQ ?_
  intro w4 hs4
  refine zS ?_
  exact ⟨_, rfl, by rw [e0]; simp [hk9], k3.trans (hs4.kp [])⟩
 refine r_no rfl (by simp [hk9]) ?_
 refine zS ?_
 by_cases hk11 : x.k = 11
 ·refine Jf7 rfl (by simp [hk11]) ?_
  refine zS ?_
  refine Zl (v := I x.o) rfl hB3 ?_
  refine zS ?_
  refine ⟨_, rfl, ?_, k3⟩
  rw [e0]
  simp [hk11]
  by_cases h0 : x.o = 0
  ·simp [h0]
  ·rw [decide_eq_false h0]
   by_cases h1 : 0 ≤ x.o
   ·rw [decide_eq_true h1, decide_eq_false (show ¬ x.o < 1 by omega)]; rfl
   ·rw [decide_eq_false h1]; rfl
 refine r_no rfl (by simp [hk11]) ?_
 refine zS ?_
 exact ⟨_, rfl, by rw [e0]; simp [hk1, hk2, hk3, hk4, hk5, hk6, hk7, hk8, hk9, hk11], k3⟩
end
end
end Go.Vc
