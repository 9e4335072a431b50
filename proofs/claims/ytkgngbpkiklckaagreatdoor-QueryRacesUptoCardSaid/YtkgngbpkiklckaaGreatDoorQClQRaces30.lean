/- abreastref19: a checker in memory (the same plain model as feasible's); below, count, Shape, Full, Can. -/
import Derived.Test.YtkgngbpkiklckaaGreatDoorQClQRaces12
import Derived.Test.YtkgngbpkiklckaaGreatDoorQClQRaces29
namespace Go.Vc
open Go Go.Proofs
set_option maxRecDepth 10000
variable {w : World}
def thL (s : Shp) (c : Ck) : List Std := (List.range s.th.toNat).map fun t : Nat => st c t
def loL (s : Shp) (c : Ck) : List Int := (List.range s.lo.toNat).map fun l : Nat => (c.O l).getD (-1)
structure RG where
  p : Nat
  pad : Option Addr
  pcap : Nat
  tad : Option Addr
  tcap : Nat
  wad : Option Addr
  wcap : Nat
  oad : Option Addr
  ocap : Nat
def RG.F (g : RG) : List Nat := g.p :: (blkOf g.pad ++ (blkOf g.tad ++ (blkOf g.wad ++ blkOf g.oad)))
abbrev rgC (g : RG) (s : Shp) (c : Ck) : List Value := [I s.th, I s.va, I s.vo, I s.lo, .slice g.pad s.pa.length g.pcap, .slice g.tad s.th.toNat g.tcap, .slice g.wad s.lo.toNat g.wcap, .slice g.oad c.op.length g.ocap, I c.n]
structure RM (w : World) (g : RG) (s : Shp) (c : Ck) : Prop where
  hdr : Blk w g.p (rgC g s c) 210
  pa : OwnS w 3 1 g.pad s.pa.length g.pcap (s.pa.map I)
  th : OwnS w 136 3 g.tad s.th.toNat g.tcap ((thL s c).flatMap stdC)
  lo : OwnS w 3 1 g.wad s.lo.toNat g.wcap ((loL s c).map I)
  op : OwnS w 131 2 g.oad c.op.length g.ocap (c.op.flatMap opC2)
  nd : g.F.Nodup
structure RAt (w : World) (g : RG) (s : Shp) (c : Ck) : Prop extends RM w g s c where
  ok : CkOk s c
  nz : ∀ t x, c.T t = some x → x.ph ≠ 0
theorem RM.kp {w' : World} {S : List Nat} {g : RG} {s : Shp} {c : Ck} (h : RM w g s c) (hk : Kp S w w') (hS : ∀ b, b ∈ g.F → b ∉ S) : RM w' g s c where
  hdr := hk.blk (hS g.p (by simp [RG.F])) h.hdr
  pa := h.pa.kp hk (fun b hb => hS b (by simp [RG.F, hb]))
  th := h.th.kp hk (fun b hb => hS b (by simp [RG.F, hb]))
  lo := h.lo.kp hk (fun b hb => hS b (by simp [RG.F, hb]))
  op := h.op.kp hk (fun b hb => hS b (by simp [RG.F, hb]))
  nd := h.nd
theorem RAt.kp {w' : World} {S : List Nat} {g : RG} {s : Shp} {c : Ck} (h : RAt w g s c) (hk : Kp S w w') (hS : ∀ b, b ∈ g.F → b ∉ S) : RAt w' g s c := ⟨h.toRM.kp hk hS, h.ok, h.nz⟩
theorem RAt.kp0 {w' : World} {g : RG} {s : Shp} {c : Ck} (h : RAt w g s c) (hk : Kp [] w w') : RAt w' g s c := h.kp hk (by simp)
theorem RAt.sm {w' : World} {g : RG} {s : Shp} {c : Ck} (h : RAt w g s c) (hk : Sm w w') : RAt w' g s c := h.kp0 (hk.kp [])
theorem RM.lt {g : RG} {s : Shp} {c : Ck} (h : RM w g s c) : ∀ b, b ∈ g.F → b < w.heap.size := by
  intro b hb
  simp only [RG.F, List.mem_cons, List.mem_append] at hb
  rcases hb with rfl | hb | hb | hb | hb
  · exact h.hdr.lt
  · exact h.pa.lt b hb
  · exact h.th.lt b hb
  · exact h.lo.lt b hb
  · exact h.op.lt b hb
theorem thL_len (s : Shp) (c : Ck) : (thL s c).length = s.th.toNat := by simp [thL]
theorem loL_len (s : Shp) (c : Ck) : (loL s c).length = s.lo.toNat := by simp [loL]
theorem thL_get {s : Shp} {c : Ck} {t : Int} (h0 : 0 ≤ t) (h1 : t < s.th) : (thL s c)[t.toNat]? = some (st c t) := by
  unfold thL
  rw [List.getElem?_map, List.getElem?_range (by omega)]
  have : ((t.toNat : Nat) : Int) = t := by omega
  simp [this]
theorem loL_get {s : Shp} {c : Ck} {l : Int} (h0 : 0 ≤ l) (h1 : l < s.lo) : (loL s c)[l.toNat]? = some ((c.O l).getD (-1)) := by
  unfold loL
  rw [List.getElem?_map, List.getElem?_range (by omega)]
  have : ((l.toNat : Nat) : Int) = l := by omega
  simp [this]
section
variable {g : RG} {s : Shp} {c : Ck}
/-- a thread's stand: where it lies -/
theorem RM.thr (h : RM w g s c) {t : Int} (h0 : 0 ≤ t) (h1 : t < s.th) : ∃ b L, g.tad = some ⟨b, 0, none⟩ ∧ Blk w b L 136 ∧ t.toNat * 3 + 3 ≤ L.length ∧ (∀ j v, (stdC (st c t))[j]? = some v → L[t.toNat * 3 + j]? = some v) ∧
    ∀ x w', Upd w b (.cells ⟨setMany L (t.toNat * 3) (stdC x)⟩ 136 (0, 0)) w' → OwnS w' 136 3 g.tad s.th.toNat g.tcap (((thL s c).set t.toNat x).flatMap stdC) := by
  have ho := h.th
  rw [← thL_len s c] at ho
  obtain ⟨b, L, q1, q2, q3, q4, q5⟩ := ho.rec (fun _ => rfl) (by omega) (i := t.toNat) (by rw [thL_len]; omega)
  refine ⟨b, L, q1, q2, q3, q4 _ (thL_get h0 h1), fun x w' hu => ?_⟩
  have := q5 x w' hu
  rwa [thL_len] at this
theorem RM.lok (h : RM w g s c) {l : Int} (h0 : 0 ≤ l) (h1 : l < s.lo) : ∃ b L, g.wad = some ⟨b, 0, none⟩ ∧ Blk w b L 3 ∧ l.toNat < L.length ∧ L[l.toNat]? = some (I ((c.O l).getD (-1))) ∧
    ∀ x w', Upd w b (.cells ⟨L.set l.toNat (I x)⟩ 3 (0, 0)) w' → OwnS w' 3 1 g.wad s.lo.toNat g.wcap (((loL s c).set l.toNat x).map I) := by
  have ho := h.lo
  rw [← loL_len s c] at ho
  have e : ∀ l : List Int, l.map I = l.flatMap (fun x => [I x]) := fun l => List.map_eq_flatMap
  rw [e] at ho
  obtain ⟨b, L, q1, q2, q3, q4, q5⟩ := ho.rec (m := 1) (fun _ => rfl) (by omega) (i := l.toNat) (by rw [loL_len]; omega)
  refine ⟨b, L, q1, q2, by omega, by simpa using q4 _ (loL_get h0 h1) 0 _ rfl, fun x w' hu => ?_⟩
  have := q5 x w' (by rw [set1_many, Nat.mul_one]; exact hu)
  rw [loL_len] at this
  rw [e]; exact this
theorem RM.opn (h : RM w g s c) {i : Int} (h0 : 0 ≤ i) (h1 : i < c.op.length) : ∃ b L, g.oad = some ⟨b, 0, none⟩ ∧ Blk w b L 131 ∧ i.toNat * 2 + 2 ≤ L.length ∧ (∀ j v, (opC2 (opAt c i))[j]? = some v → L[i.toNat * 2 + j]? = some v) ∧
    ∀ x w', Upd w b (.cells ⟨setMany L (i.toNat * 2) (opC2 x)⟩ 131 (0, 0)) w' → OwnS w' 131 2 g.oad c.op.length g.ocap ((c.op.set i.toNat x).flatMap opC2) := by
  obtain ⟨b, L, q1, q2, q3, q4, q5⟩ := h.op.rec (fun _ => rfl) (by omega) (i := i.toNat) (by omega)
  exact ⟨b, L, q1, q2, q3, q4 _ (by unfold opAt; rw [List.getElem?_eq_getElem (by omega)]; rfl), q5⟩
theorem below_ret (i n : Int) : Ret Tryz.prog 99 [I i, I n] w (fun v w' => v = .bool (decide (0 ≤ i ∧ i < n)) ∧ w' = w) := by
  refine enter Tryz.call99 Tryz.func99 rfl rfl rfl rfl ?_
  (repeat first|refine zA ?_|refine zg ?_|refine zo rfl rfl trivial ?_|refine zn ?_)
  by_cases h : 0 ≤ i
  · refine o_is true 2 true rfl rfl rfl (by simp [h]) ?_
    (repeat first|refine zo rfl rfl trivial ?_|refine zn ?_|refine zr ?_)
    exact ⟨_, rfl, by simp [h], rfl⟩
  · refine o_is false 2 true rfl rfl rfl (by simp [h]) ?_
    (repeat first|refine zo rfl rfl trivial ?_|refine zn ?_|refine zr ?_)
    exact ⟨_, rfl, by simp [h], rfl⟩
theorem below_q (i n : Int) {C : World → Prop} : ∀ w1, C w1 → Ret Tryz.prog 99 [I i, I n] w1 (fun v w' => v = .bool (decide (0 ≤ i ∧ i < n)) ∧ C w') :=
  fun _ hc => (below_ret i n).mono fun _ _ ⟨h1, h2⟩ => ⟨h1, by rw [h2]; exact hc⟩
theorem count_ret (n : Int) : Ret Tryz.prog 98 [I n] w (fun v w' => v = .bool (decide (0 ≤ n ∧ n ≤ 4096)) ∧ w' = w) := by
  refine enter Tryz.call98 Tryz.func98 rfl rfl rfl rfl ?_
  (repeat first|refine zA ?_|refine zg ?_|refine zo rfl rfl trivial ?_|refine zn ?_)
  by_cases h : 0 ≤ n
  · refine o_is true 2 true rfl rfl rfl (by simp [h]) ?_
    (repeat first|refine zo rfl rfl trivial ?_|refine zn ?_|refine zr ?_)
    exact ⟨_, rfl, by simp [h], rfl⟩
  · refine o_is false 2 true rfl rfl rfl (by simp [h]) ?_
    (repeat first|refine zo rfl rfl trivial ?_|refine zn ?_|refine zr ?_)
    exact ⟨_, rfl, by simp [h], rfl⟩
theorem rShape_ret {pad : Option Addr} {cap : Nat} (h : ReadS w pad (s.pa.map I)) (hl : s.pa.length ≤ 1048576) :
    Ret Tryz.prog 49 [.agg ⟨shC s pad cap⟩] w (fun v w' => v = I (if shapeB s = true then 0 else 5) ∧ Kp [] w w') := by
  have bad : ¬ shapeOk s → (if shapeB s = true then (0 : Int) else 5) = 5 := fun hn => by rw [if_neg (fun h => hn ((shapeB_iff s).1 h))]
  refine enter Tryz.call49 Tryz.func49 rfl rfl rfl rfl ?_
  (repeat first|refine zA ?_|refine zg ?_)
  refine o_box rfl rfl rfl ?_
  intro bx w1 hbx hu1
  have hB : Blk w1 bx (shC s pad cap) 27 := hu1.blk
  have k1 : Kp [] w w1 := hu1.kp [] (.inr (by omega))
  have hr := h.kp k1 (by simp)
  (repeat first|refine zA ?_|refine zB ?_|refine zg ?_|refine zo rfl rfl trivial ?_|refine zn ?_)
  refine o_load (v := I s.th) rfl hB rfl rfl rfl rfl rfl ?_
  (repeat refine zo rfl rfl trivial ?_)
  by_cases h1 : s.th < 1
  · refine o_is true 3 false rfl rfl rfl (by simp [h1]) ?_
    (repeat first|refine zA ?_|refine zg ?_|refine zo rfl rfl trivial ?_|refine zn ?_|refine zr ?_|refine zT rfl rfl rfl ?_|refine zt rfl ?_)
    exact ⟨_, rfl, by rw [bad (fun h => by have := h.1.1; omega)], k1⟩
  refine o_is false 3 false rfl rfl rfl (by simp [h1]) ?_
  (repeat refine zo rfl rfl trivial ?_)
  refine o_load (v := I s.th) rfl hB rfl rfl rfl rfl rfl ?_
  (repeat refine zo rfl rfl trivial ?_)
  by_cases h2 : 65535 < s.th
  · refine o_is true 8 false rfl rfl rfl (by simp [h2]) ?_
    (repeat first|refine zA ?_|refine zg ?_|refine zo rfl rfl trivial ?_|refine zn ?_|refine zr ?_|refine zT rfl rfl rfl ?_|refine zt rfl ?_)
    exact ⟨_, rfl, by rw [bad (fun h => by have := h.1.2; omega)], k1⟩
  refine o_is false 8 false rfl rfl rfl (by simp [h2]) ?_
  (repeat refine zo rfl rfl trivial ?_)
  refine o_load (v := I s.va) rfl hB rfl rfl rfl rfl rfl ?_
  refine o_call (count_ret s.va) rfl rfl rfl ?_
  rintro _ wx ⟨rfl, rfl⟩
  (repeat refine zo rfl rfl trivial ?_)
  by_cases h3 : 0 ≤ s.va ∧ s.va ≤ 4096
  rotate_left
  · refine o_is true 14 false rfl rfl rfl (by simp; omega) ?_
    (repeat first|refine zA ?_|refine zg ?_|refine zo rfl rfl trivial ?_|refine zn ?_|refine zr ?_|refine zT rfl rfl rfl ?_|refine zt rfl ?_)
    exact ⟨_, rfl, by rw [bad (fun h => h3 h.2.1)], k1⟩
  refine o_is false 14 false rfl rfl rfl (by simpa using h3) ?_
  (repeat refine zo rfl rfl trivial ?_)
  refine o_load (v := I s.vo) rfl hB rfl rfl rfl rfl rfl ?_
  refine o_call (count_ret s.vo) rfl rfl rfl ?_
  rintro _ wx ⟨rfl, rfl⟩
  (repeat refine zo rfl rfl trivial ?_)
  by_cases h4 : 0 ≤ s.vo ∧ s.vo ≤ 4096
  rotate_left
  · refine o_is true 20 false rfl rfl rfl (by simp; omega) ?_
    (repeat first|refine zA ?_|refine zg ?_|refine zo rfl rfl trivial ?_|refine zn ?_|refine zr ?_|refine zT rfl rfl rfl ?_|refine zt rfl ?_)
    exact ⟨_, rfl, by rw [bad (fun h => h4 h.2.2.1)], k1⟩
  refine o_is false 20 false rfl rfl rfl (by simpa using h4) ?_
  (repeat refine zo rfl rfl trivial ?_)
  refine o_load (v := I s.lo) rfl hB rfl rfl rfl rfl rfl ?_
  refine o_call (count_ret s.lo) rfl rfl rfl ?_
  rintro _ wx ⟨rfl, rfl⟩
  (repeat refine zo rfl rfl trivial ?_)
  by_cases h5 : 0 ≤ s.lo ∧ s.lo ≤ 4096
  rotate_left
  · refine o_is true 26 false rfl rfl rfl (by simp; omega) ?_
    (repeat first|refine zA ?_|refine zg ?_|refine zo rfl rfl trivial ?_|refine zn ?_|refine zr ?_|refine zt rfl ?_)
    exact ⟨_, rfl, by rw [bad (fun h => h5 h.2.2.2.1)], k1⟩
  refine o_is false 26 false rfl rfl rfl (by simpa using h5) ?_
  (repeat refine zo rfl rfl trivial ?_)
  refine o_load (v := .slice pad s.pa.length cap) rfl hB rfl rfl rfl rfl rfl ?_
  (repeat refine zo rfl rfl trivial ?_)
  refine o_call (count_ret s.pa.length) rfl rfl rfl ?_
  rintro _ wx ⟨rfl, rfl⟩
  (repeat first|refine zo rfl rfl trivial ?_|refine zn ?_)
  by_cases h6 : s.pa.length ≤ 4096
  rotate_left
  · refine r_yes rfl (by simp; omega) ?_
    (repeat first|refine zA ?_|refine zg ?_|refine zo rfl rfl trivial ?_|refine zn ?_|refine zr ?_)
    exact ⟨_, rfl, by rw [bad (fun h => h6 h.2.2.2.2.1)], k1⟩
  refine r_no rfl (by simp; omega) ?_
  (repeat first|refine zA ?_|refine zB ?_|refine zg ?_|refine zo rfl rfl trivial ?_|refine zn ?_|refine zb ?_|refine zk ?_)
  refine r_loop (α := Nat) [1, 3] (fun i => [ptr bx, I i]) (fun i w1 => wx = w1 ∧ i ≤ s.pa.length ∧ (s.pa.take i).all partyB = true) (fun i => s.pa.length - i) 0 rfl ⟨rfl, by omega, rfl⟩ ?_
  rintro i e _ ⟨rfl, hi, hall⟩
  (repeat first|refine zA ?_|refine zB ?_|refine zg ?_|refine zo rfl rfl trivial ?_)
  refine o_load (v := .slice pad s.pa.length cap) rfl hB rfl rfl rfl rfl rfl ?_
  (repeat first|refine zo rfl rfl trivial ?_|refine zn ?_)
  refine r_if rfl (fun hc => ?_) (fun hc => ?_)
  · have hlt : i < s.pa.length := by omega
    obtain ⟨x, hx⟩ : ∃ x, s.pa[i]? = some x := ⟨_, List.getElem?_eq_getElem hlt⟩
    obtain ⟨b, off, rfl, _, hcell⟩ := hr.at_ (by simp; omega)
    have hcx := hcell i _ (by rw [List.getElem?_map, hx]; rfl)
    have hno : partyB x = false → (if shapeB s = true then (0 : Int) else 5) = 5 := fun hp => bad fun h => by
      have := h.2.2.2.2.2 x (List.mem_of_getElem? hx)
      unfold partyB at hp
      simp only [decide_eq_false_iff_not] at hp
      exact hp this
    (repeat first|refine zA ?_|refine zC ?_|refine zg ?_|refine zo rfl rfl trivial ?_|refine zb ?_|refine zk ?_)
    refine o_load (v := .slice (some ⟨b, off, none⟩) s.pa.length cap) rfl hB rfl rfl rfl rfl rfl ?_
    (repeat refine zo rfl rfl (by first|exact trivial|(simp only[AllP];omega)) ?_)
    refine o_loadc (v := I x) rfl hcx rfl rfl rfl rfl ?_
    (repeat refine zo rfl rfl trivial ?_)
    by_cases h7 : x < 1
    · refine o_is true 6 false rfl rfl rfl (by simp [h7]) ?_
      (repeat first|refine zA ?_|refine zg ?_|refine zo rfl rfl trivial ?_|refine zn ?_|refine zr ?_|refine zt rfl ?_)
      exact ⟨_, rfl, by rw [hno (by unfold partyB; simp; omega)], k1⟩
    refine o_is false 6 false rfl rfl rfl (by simp [h7]) ?_
    (repeat refine zo rfl rfl trivial ?_)
    refine o_load (v := .slice (some ⟨b, off, none⟩) s.pa.length cap) rfl hB rfl rfl rfl rfl rfl ?_
    (repeat refine zo rfl rfl (by first|exact trivial|(simp only[AllP];omega)) ?_)
    refine o_loadc (v := I x) rfl hcx rfl rfl rfl rfl ?_
    (repeat first|refine zo rfl rfl trivial ?_|refine zn ?_)
    refine r_if rfl (fun hc8 => ?_) (fun hc8 => ?_)
    · (repeat first|refine zA ?_|refine zg ?_|refine zo rfl rfl trivial ?_|refine zn ?_|refine zr ?_)
      exact ⟨_, rfl, by rw [hno (by unfold partyB; simp; omega)], k1⟩
    · (repeat first|refine zg ?_|refine zo rfl rfl (by first|exact trivial|(simp only[AllP];omega)) ?_|refine zn ?_|refine zk ?_)
      refine ⟨i + 1, rfl, ⟨rfl, by omega, ?_⟩, by omega⟩
      rw [List.take_add_one, hx, List.all_append, hall]
      have : partyB x = true := by unfold partyB; simp; omega
      simp [this]
  · have hin : i = s.pa.length := by omega
    subst hin
    rw [List.take_length] at hall
    (repeat first|refine zA ?_|refine zg ?_|refine zo rfl rfl trivial ?_|refine zn ?_|refine ze rfl ?_|refine zr ?_)
    refine ⟨_, rfl, ?_, k1⟩
    rw [if_pos]
    rw [shapeB_iff]
    refine ⟨by omega, h3, h4, h5, h6, fun x hx => ?_⟩
    have := List.all_eq_true.1 hall x hx
    unfold partyB at this
    simpa using this
/-- an access to the i-th thread, in a quiet stretch -/
theorem rFull_ret (h : RAt w g s c) (t : Int) : Ret Tryz.prog 100 [ptr g.p, I t] w (fun v w' => v = .bool (fullB c t) ∧ Kp [] w w') := by
  have hth := h.ok.sh.1
  refine enter Tryz.call100 Tryz.func100 rfl rfl rfl rfl ?_
  (repeat first|refine zA ?_|refine zB ?_|refine zg ?_|refine zo rfl rfl trivial ?_|refine zn ?_|refine zU rfl rfl rfl ?_)
  refine o_load (v := .slice g.tad s.th.toNat g.tcap) rfl h.hdr rfl rfl rfl rfl rfl ?_
  (repeat refine zo rfl rfl trivial ?_)
  refine o_call (below_ret t s.th.toNat) rfl rfl rfl ?_
  rintro _ wx ⟨rfl, rfl⟩
  (repeat first|refine zo rfl rfl trivial ?_|refine zn ?_)
  by_cases ht : 0 ≤ t ∧ t < s.th
  rotate_left
  · refine r_yes rfl (by simp; omega) ?_
    (repeat first|refine zA ?_|refine zg ?_|refine zo rfl rfl trivial ?_|refine zn ?_|refine zr ?_)
    refine ⟨_, rfl, ?_, Kp.refl _ _⟩
    have : c.T t = none := by
      cases hT : c.T t with
      | none => rfl
      | some x => exact absurd (h.ok.T t x hT).1 ht
    unfold fullB st
    rw [this]; rfl
  refine r_no rfl (by simp; omega) ?_
  obtain ⟨b, L, hb, hL, hlen, hget, _⟩ := h.thr ht.1 ht.2
  have hh := h.hdr
  rw [show rgC g s c = [I s.th, I s.va, I s.vo, I s.lo, .slice g.pad s.pa.length g.pcap, .slice (some ⟨b, 0, none⟩) s.th.toNat g.tcap, .slice g.wad s.lo.toNat g.wcap, .slice g.oad c.op.length g.ocap, I c.n] by rw [rgC, hb]] at hh
  (repeat first|refine zA ?_|refine zg ?_|refine zo rfl rfl trivial ?_|refine zk ?_)
  refine o_load (v := .slice (some ⟨b, 0, none⟩) s.th.toNat g.tcap) rfl hh rfl rfl rfl rfl rfl ?_
  (repeat refine zo rfl rfl (by first|exact trivial|(simp only[AllP];omega)) ?_)
  refine o_loadA (vs := stdC (st c t)) rfl (fun j v hv => ?_) rfl rfl rfl rfl rfl rfl ?_
  · rw [Nat.zero_add]; exact hL.cell (hget j v hv)
  refine o_alloc rfl rfl rfl rfl ?_
  intro bt w1 hbt hu1
  refine o_storeA (cs := stdC (st c t)) rfl hu1.blk (Nat.le_refl _) rfl (by simp [Value.oneCell']) rfl rfl rfl rfl ?_
  intro w2 hu2
  have k2 : Kp [] wx w2 := (hu1.kp [] (.inr (by omega))).since (hu2.kp [bt] (.inl (by simp))) (by simp; omega)
  have hBt : Blk w2 bt (stdC (st c t)) 136 := hu2.blk
  have h2 := h.kp0 k2
  (repeat refine zn ?_)
  refine r_seq ?_
  refine r_quietS follows_mixed (by kernel_rfl) ?_
  (repeat refine yo rfl rfl trivial ?_)
  refine q_load (v := I (st c t).ph) rfl (fun w hs => (hs.blk hBt).cell rfl) rfl rfl rfl rfl ?_
  (repeat refine yo rfl rfl trivial ?_)
  by_cases hp : (st c t).ph = 2
  · obtain ⟨hb1, hb2⟩ := st_ba h.ok hp
    obtain ⟨ob, L2, hoad, hL2, hlen2, hget2, _⟩ := h2.opn hb1 hb2
    have hh2 := h2.hdr
    rw [show rgC g s c = [I s.th, I s.va, I s.vo, I s.lo, .slice g.pad s.pa.length g.pcap, .slice g.tad s.th.toNat g.tcap, .slice g.wad s.lo.toNat g.wcap, .slice (some ⟨ob, 0, none⟩) c.op.length g.ocap, I c.n] by rw [rgC, hoad]] at hh2
    refine q_is true 3 true rfl rfl rfl (by simp [hp]) ?_
    (repeat refine yo rfl rfl trivial ?_)
    refine q_load (v := I (st c t).ro) rfl (fun w hs => (hs.blk hBt).cell rfl) rfl rfl rfl rfl ?_
    (repeat refine yo rfl rfl trivial ?_)
    refine q_load (v := .slice (some ⟨ob, 0, none⟩) c.op.length g.ocap) rfl (fun w hs => (hs.blk hh2).cell rfl) rfl rfl rfl rfl ?_
    (repeat refine yo rfl rfl trivial ?_)
    refine q_load (v := I (st c t).ba) rfl (fun w hs => (hs.blk hBt).cell rfl) rfl rfl rfl rfl ?_
    (repeat refine yo rfl rfl (by first|exact trivial|(simp only[AllP];omega)) ?_)
    refine q_load (b := ob) (off := (st c t).ba.toNat * 2) (v := I (opAt c (st c t).ba).1) ?_ (fun w hs => (hs.blk hL2).cell (hget2 0 _ rfl)) rfl rfl rfl rfl ?_
    · show Value.pointer (some ⟨ob, 0 + (st c t).ba.toNat * 2, none⟩) = _
      rw [Nat.zero_add]
    (repeat first|refine yo rfl rfl trivial ?_|refine yn ?_)
    intro w3 hs3
    (repeat refine zr ?_)
    exact ⟨_, rfl, by simp [fullB, hp], k2.trans (hs3.kp [])⟩
  · refine q_is false 3 true rfl rfl rfl (by simp [hp]) ?_
    (repeat first|refine yo rfl rfl trivial ?_|refine yn ?_)
    intro w3 hs3
    (repeat refine zr ?_)
    exact ⟨_, rfl, by simp [fullB, hp], k2.trans (hs3.kp [])⟩
end
end Go.Vc
