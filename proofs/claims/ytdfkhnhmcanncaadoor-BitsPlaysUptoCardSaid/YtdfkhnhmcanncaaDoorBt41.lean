/- bits: the book of BitsPlays: stands. -/
import Derived.Test.YtdfkhnhmcanncaaDoorBt40
namespace Go.Vc
open Go Go.Proofs
set_option maxRecDepth 10000
variable {w : World}
section
variable {w0 : World} {W : Nat} {sl : Nat → Option Sl} {g : BGh}
/-- the k-th of a row of the book -/
theorem PI.row_at {ad : Nat → Option Addr} {cp : Nat → Nat} {row : Nat → List Value} {Cst : List Nat} (h : PI w0 w W sl ad cp row Cst) {j k : Nat} {v : Value} (hj : j < 7) (hv : (row j)[k]? = some v) :
    ∃ b o, (rowL 15 (wf sl ad cp row))[8 + j]? = some (.slice (some ⟨b, o, none⟩) (row j).length (cp j)) ∧ w.cell? ⟨b, o + k, none⟩ = some v ∧ b < w.heap.size := by
  have hk := (List.getElem?_eq_some_iff.1 hv).1
  obtain ⟨b, o, he, hb, hc⟩ := (h.own j hj).read.at_ (by omega)
  refine ⟨b, o, ?_, hc k v hv, hb⟩
  rw [rowL_get _ (by omega)]
  unfold wf
  rw [if_neg (by omega), if_neg (by omega), Nat.add_sub_cancel_left, he]
theorem Rows.len {row : Nat → List Value} {ents : List Ent} {sqs : List (Value × List Nat)} {wts : List Sc} (h : Rows row ents sqs wts) : (row 0).length = ents.length ∧ (row 1).length = ents.length ∧ (row 2).length = ents.length ∧ (row 3).length = ents.length ∧ (row 4).length = ents.length ∧ (row 5).length = sqs.length ∧ (row 6).length = wts.length := by
  rw [h.r0, h.r1, h.r2, h.r3, h.r4, h.r5, h.r6]; simp
set_option maxHeartbeats 1600000 in
theorem stands_ret (hg : PX w0 w W sl g) (hcnt : g.ents.length ≤ 1073741824) :
    Ret Tryd.prog 55 [.pointer (some ⟨W, 8, none⟩)] w (fun v w' => v = .bool true ∧ w' = w) := by
  obtain ⟨l0, l1, l2, l3, l4, _, _⟩ := hg.rows.len
  refine enter Tryd.call55 Tryd.func55 rfl rfl rfl rfl ?_
  (repeat first|refine zA ?_|refine zB ?_|refine zC ?_|refine zD ?_|refine zE ?_|refine zg ?_|refine zo rfl rfl (by first|exact trivial|(simp only[AllP];omega)|(simp(discharger:=omega)only[AllP,cA,cB];omega)|(simp only[AllP,cC,cD,cE,cF,cG];omega)) ?_|refine zn ?_|refine zb ?_|refine ze rfl ?_|refine zr ?_|refine zk ?_|refine zT rfl rfl rfl ?_|refine zU rfl rfl rfl ?_|refine zV rfl rfl rfl ?_|refine zf rfl ?_|refine zt rfl ?_)
  refine r_loop (α := Nat) [0, 3] (fun k => [.pointer (some ⟨W, 8, none⟩), I k]) (fun k w1 => w = w1 ∧ k ≤ g.ents.length) (fun k => g.ents.length - k) 0 rfl ⟨rfl, by omega⟩ ?_
  rintro k e w1 ⟨rfl, hk⟩
  (repeat first|refine zA ?_|refine zB ?_|refine zC ?_|refine zD ?_|refine zE ?_|refine zg ?_|refine zo rfl rfl (by first|exact trivial|(simp only[AllP];omega)|(simp(discharger:=omega)only[AllP,cA,cB];omega)|(simp only[AllP,cC,cD,cE,cF,cG];omega)) ?_|refine zn ?_|refine zb ?_|refine ze rfl ?_|refine zr ?_|refine zk ?_|refine zT rfl rfl rfl ?_|refine zU rfl rfl rfl ?_|refine zV rfl rfl rfl ?_|refine zf rfl ?_|refine zt rfl ?_)
  refine o_load (v := .slice (g.ad 4) (g.row 4).length (g.cp 4)) rfl hg.pi.hdr rfl rfl rfl rfl rfl ?_
  (repeat first|refine zA ?_|refine zB ?_|refine zC ?_|refine zD ?_|refine zE ?_|refine zg ?_|refine zo rfl rfl (by first|exact trivial|(simp only[AllP];omega)|(simp(discharger:=omega)only[AllP,cA,cB];omega)|(simp only[AllP,cC,cD,cE,cF,cG];omega)) ?_|refine zn ?_|refine zb ?_|refine ze rfl ?_|refine zr ?_|refine zk ?_|refine zT rfl rfl rfl ?_|refine zU rfl rfl rfl ?_|refine zV rfl rfl rfl ?_|refine zf rfl ?_|refine zt rfl ?_)
  refine r_if (p := (k : Int) < (g.row 4).length) rfl (fun hc => ?_) (fun hc => ?_)
  rotate_left
  · (repeat first|refine zA ?_|refine zB ?_|refine zC ?_|refine zD ?_|refine zE ?_|refine zg ?_|refine zo rfl rfl (by first|exact trivial|(simp only[AllP];omega)|(simp(discharger:=omega)only[AllP,cA,cB];omega)|(simp only[AllP,cC,cD,cE,cF,cG];omega)) ?_|refine zn ?_|refine zb ?_|refine ze rfl ?_|refine zr ?_|refine zk ?_|refine zT rfl rfl rfl ?_|refine zU rfl rfl rfl ?_|refine zV rfl rfl rfl ?_|refine zf rfl ?_|refine zt rfl ?_)
    exact ⟨_, rfl, rfl, rfl⟩
  have hlt : k < g.ents.length := by omega
  obtain ⟨x, hx⟩ : ∃ x, g.ents[k]? = some x := ⟨_, List.getElem?_eq_getElem hlt⟩
  have hX := hg.pc.ent x (List.mem_of_getElem? hx)
  obtain ⟨b0, o0, f0, c0, t0⟩ := hg.pi.row_at (j := 0) (k := k) (v := x.i.v) (by omega) (by rw [hg.rows.r0, List.getElem?_map, hx]; rfl)
  obtain ⟨b1, o1, f1, c1, t1⟩ := hg.pi.row_at (j := 1) (k := k) (v := x.mo.v) (by omega) (by rw [hg.rows.r1, List.getElem?_map, hx]; rfl)
  obtain ⟨b2, o2, f2, c2, t2⟩ := hg.pi.row_at (j := 2) (k := k) (v := x.u.v) (by omega) (by rw [hg.rows.r2, List.getElem?_map, hx]; rfl)
  obtain ⟨b3, o3, f3, c3, t3⟩ := hg.pi.row_at (j := 3) (k := k) (v := x.gr.v) (by omega) (by rw [hg.rows.r3, List.getElem?_map, hx]; rfl)
  obtain ⟨b4, o4, f4, c4, t4⟩ := hg.pi.row_at (j := 4) (k := k) (v := I x.m) (by omega) (by rw [hg.rows.r4, List.getElem?_map, hx]; rfl)
  have hmo := hX.mo.small
  have hgr := hX.gr.small
  (repeat first|refine zA ?_|refine zB ?_|refine zC ?_|refine zD ?_|refine zE ?_|refine zg ?_|refine zo rfl rfl (by first|exact trivial|(simp only[AllP];omega)|(simp(discharger:=omega)only[AllP,cA,cB];omega)|(simp only[AllP,cC,cD,cE,cF,cG];omega)) ?_|refine zn ?_|refine zb ?_|refine ze rfl ?_|refine zr ?_|refine zk ?_|refine zT rfl rfl rfl ?_|refine zU rfl rfl rfl ?_|refine zV rfl rfl rfl ?_|refine zf rfl ?_|refine zt rfl ?_)
  refine o_load rfl hg.pi.hdr f4 rfl rfl rfl rfl ?_
  (repeat first|refine zA ?_|refine zB ?_|refine zC ?_|refine zD ?_|refine zE ?_|refine zg ?_|refine zo rfl rfl (by first|exact trivial|(simp only[AllP];omega)|(simp(discharger:=omega)only[AllP,cA,cB];omega)|(simp only[AllP,cC,cD,cE,cF,cG];omega)) ?_|refine zn ?_|refine zb ?_|refine ze rfl ?_|refine zr ?_|refine zk ?_|refine zT rfl rfl rfl ?_|refine zU rfl rfl rfl ?_|refine zV rfl rfl rfl ?_|refine zf rfl ?_|refine zt rfl ?_)
  refine o_loadc rfl c4 rfl rfl rfl rfl ?_
  (repeat first|refine zA ?_|refine zB ?_|refine zC ?_|refine zD ?_|refine zE ?_|refine zg ?_|refine zo rfl rfl (by first|exact trivial|(simp only[AllP];omega)|(simp(discharger:=omega)only[AllP,cA,cB];omega)|(simp only[AllP,cC,cD,cE,cF,cG];omega)) ?_|refine zn ?_|refine zb ?_|refine ze rfl ?_|refine zr ?_|refine zk ?_|refine zT rfl rfl rfl ?_|refine zU rfl rfl rfl ?_|refine zV rfl rfl rfl ?_|refine zf rfl ?_|refine zt rfl ?_)
  refine r_loop (α := Nat) [0, 3, 4, 5] (fun i => [.pointer (some ⟨W, 8, none⟩), I k, I x.m, I i]) (fun i w2 => w = w2 ∧ i ≤ x.mo.n) (fun i => x.mo.n - i) 0 rfl ⟨rfl, by omega⟩ ?_
  rintro i e w2 ⟨rfl, hi⟩
  (repeat first|refine zA ?_|refine zB ?_|refine zC ?_|refine zD ?_|refine zE ?_|refine zg ?_|refine zo rfl rfl (by first|exact trivial|(simp only[AllP];omega)|(simp(discharger:=omega)only[AllP,cA,cB];omega)|(simp only[AllP,cC,cD,cE,cF,cG];omega)) ?_|refine zn ?_|refine zb ?_|refine ze rfl ?_|refine zr ?_|refine zk ?_|refine zT rfl rfl rfl ?_|refine zU rfl rfl rfl ?_|refine zV rfl rfl rfl ?_|refine zf rfl ?_|refine zt rfl ?_)
  refine o_load rfl hg.pi.hdr f1 rfl rfl rfl rfl ?_
  (repeat first|refine zA ?_|refine zB ?_|refine zC ?_|refine zD ?_|refine zE ?_|refine zg ?_|refine zo rfl rfl (by first|exact trivial|(simp only[AllP];omega)|(simp(discharger:=omega)only[AllP,cA,cB];omega)|(simp only[AllP,cC,cD,cE,cF,cG];omega)) ?_|refine zn ?_|refine zb ?_|refine ze rfl ?_|refine zr ?_|refine zk ?_|refine zT rfl rfl rfl ?_|refine zU rfl rfl rfl ?_|refine zV rfl rfl rfl ?_|refine zf rfl ?_|refine zt rfl ?_)
  refine o_loadc (v := .slice x.mo.a x.mo.n x.mo.c) rfl c1 rfl rfl rfl rfl ?_
  (repeat first|refine zA ?_|refine zB ?_|refine zC ?_|refine zD ?_|refine zE ?_|refine zg ?_|refine zo rfl rfl (by first|exact trivial|(simp only[AllP];omega)|(simp(discharger:=omega)only[AllP,cA,cB];omega)|(simp only[AllP,cC,cD,cE,cF,cG];omega)) ?_|refine zn ?_|refine zb ?_|refine ze rfl ?_|refine zr ?_|refine zk ?_|refine zT rfl rfl rfl ?_|refine zU rfl rfl rfl ?_|refine zV rfl rfl rfl ?_|refine zf rfl ?_|refine zt rfl ?_)
  refine r_if (p := (i : Int) < x.mo.n) rfl (fun hc2 => ?_) (fun hc2 => ?_)
  · have hil : i < x.mo.n := by omega
    obtain ⟨bm, om, hme, _, hmc⟩ := hX.mo.rd.at_ (by rw [List.length_replicate]; omega)
    have hmi := hmc i (I x.m) (by rw [List.getElem?_replicate, if_pos hil] <;> rfl)
    (repeat first|refine zA ?_|refine zB ?_|refine zC ?_|refine zD ?_|refine zE ?_|refine zg ?_|refine zo rfl rfl (by first|exact trivial|(simp only[AllP];omega)|(simp(discharger:=omega)only[AllP,cA,cB];omega)|(simp only[AllP,cC,cD,cE,cF,cG];omega)) ?_|refine zn ?_|refine zb ?_|refine ze rfl ?_|refine zr ?_|refine zk ?_|refine zT rfl rfl rfl ?_|refine zU rfl rfl rfl ?_|refine zV rfl rfl rfl ?_|refine zf rfl ?_|refine zt rfl ?_)
    refine o_load rfl hg.pi.hdr f1 rfl rfl rfl rfl ?_
    (repeat first|refine zA ?_|refine zB ?_|refine zC ?_|refine zD ?_|refine zE ?_|refine zg ?_|refine zo rfl rfl (by first|exact trivial|(simp only[AllP];omega)|(simp(discharger:=omega)only[AllP,cA,cB];omega)|(simp only[AllP,cC,cD,cE,cF,cG];omega)) ?_|refine zn ?_|refine zb ?_|refine ze rfl ?_|refine zr ?_|refine zk ?_|refine zT rfl rfl rfl ?_|refine zU rfl rfl rfl ?_|refine zV rfl rfl rfl ?_|refine zf rfl ?_|refine zt rfl ?_)
    refine o_loadc (v := .slice (some ⟨bm, om, none⟩) x.mo.n x.mo.c) rfl (c1.trans (by unfold Sc.v; rw [hme])) rfl rfl rfl rfl ?_
    (repeat first|refine zA ?_|refine zB ?_|refine zC ?_|refine zD ?_|refine zE ?_|refine zg ?_|refine zo rfl rfl (by first|exact trivial|(simp only[AllP];omega)|(simp(discharger:=omega)only[AllP,cA,cB];omega)|(simp only[AllP,cC,cD,cE,cF,cG];omega)) ?_|refine zn ?_|refine zb ?_|refine ze rfl ?_|refine zr ?_|refine zk ?_|refine zT rfl rfl rfl ?_|refine zU rfl rfl rfl ?_|refine zV rfl rfl rfl ?_|refine zf rfl ?_|refine zt rfl ?_)
    refine o_loadc rfl hmi rfl rfl rfl rfl ?_
    (repeat first|refine zA ?_|refine zB ?_|refine zC ?_|refine zD ?_|refine zE ?_|refine zg ?_|refine zo rfl rfl (by first|exact trivial|(simp only[AllP];omega)|(simp(discharger:=omega)only[AllP,cA,cB];omega)|(simp only[AllP,cC,cD,cE,cF,cG];omega)) ?_|refine zn ?_|refine zb ?_|refine ze rfl ?_|refine zr ?_|refine zk ?_|refine zT rfl rfl rfl ?_|refine zU rfl rfl rfl ?_|refine zV rfl rfl rfl ?_|refine zf rfl ?_|refine zt rfl ?_)
    refine o_is false 12 false rfl rfl rfl (by simp) ?_
    (repeat first|refine zA ?_|refine zB ?_|refine zC ?_|refine zD ?_|refine zE ?_|refine zg ?_|refine zo rfl rfl (by first|exact trivial|(simp only[AllP];omega)|(simp(discharger:=omega)only[AllP,cA,cB];omega)|(simp only[AllP,cC,cD,cE,cF,cG];omega)) ?_|refine zn ?_|refine zb ?_|refine ze rfl ?_|refine zr ?_|refine zk ?_|refine zT rfl rfl rfl ?_|refine zU rfl rfl rfl ?_|refine zV rfl rfl rfl ?_|refine zf rfl ?_|refine zt rfl ?_)
    refine o_load rfl hg.pi.hdr f0 rfl rfl rfl rfl ?_
    (repeat first|refine zA ?_|refine zB ?_|refine zC ?_|refine zD ?_|refine zE ?_|refine zg ?_|refine zo rfl rfl (by first|exact trivial|(simp only[AllP];omega)|(simp(discharger:=omega)only[AllP,cA,cB];omega)|(simp only[AllP,cC,cD,cE,cF,cG];omega)) ?_|refine zn ?_|refine zb ?_|refine ze rfl ?_|refine zr ?_|refine zk ?_|refine zT rfl rfl rfl ?_|refine zU rfl rfl rfl ?_|refine zV rfl rfl rfl ?_|refine zf rfl ?_|refine zt rfl ?_)
    refine o_loadc (v := .slice x.i.a x.i.n x.i.c) rfl c0 rfl rfl rfl rfl ?_
    (repeat first|refine zA ?_|refine zB ?_|refine zC ?_|refine zD ?_|refine zE ?_|refine zg ?_|refine zo rfl rfl (by first|exact trivial|(simp only[AllP];omega)|(simp(discharger:=omega)only[AllP,cA,cB];omega)|(simp only[AllP,cC,cD,cE,cF,cG];omega)) ?_|refine zn ?_|refine zb ?_|refine ze rfl ?_|refine zr ?_|refine zk ?_|refine zT rfl rfl rfl ?_|refine zU rfl rfl rfl ?_|refine zV rfl rfl rfl ?_|refine zf rfl ?_|refine zt rfl ?_)
    refine o_split 23 true rfl rfl rfl (fun hb => ?_) (fun hb => ?_)
    · have hil2 : i < x.i.n := by simpa using hb
      obtain ⟨bs, os, hse, _, hsc⟩ := hX.i.rd.at_ (by rw [List.length_replicate]; omega)
      have hsi := hsc i (I x.m) (by rw [List.getElem?_replicate, if_pos hil2] <;> rfl)
      (repeat first|refine zA ?_|refine zB ?_|refine zC ?_|refine zD ?_|refine zE ?_|refine zg ?_|refine zo rfl rfl (by first|exact trivial|(simp only[AllP];omega)|(simp(discharger:=omega)only[AllP,cA,cB];omega)|(simp only[AllP,cC,cD,cE,cF,cG];omega)) ?_|refine zn ?_|refine zb ?_|refine ze rfl ?_|refine zr ?_|refine zk ?_|refine zT rfl rfl rfl ?_|refine zU rfl rfl rfl ?_|refine zV rfl rfl rfl ?_|refine zf rfl ?_|refine zt rfl ?_)
      refine o_load rfl hg.pi.hdr f0 rfl rfl rfl rfl ?_
      (repeat first|refine zA ?_|refine zB ?_|refine zC ?_|refine zD ?_|refine zE ?_|refine zg ?_|refine zo rfl rfl (by first|exact trivial|(simp only[AllP];omega)|(simp(discharger:=omega)only[AllP,cA,cB];omega)|(simp only[AllP,cC,cD,cE,cF,cG];omega)) ?_|refine zn ?_|refine zb ?_|refine ze rfl ?_|refine zr ?_|refine zk ?_|refine zT rfl rfl rfl ?_|refine zU rfl rfl rfl ?_|refine zV rfl rfl rfl ?_|refine zf rfl ?_|refine zt rfl ?_)
      refine o_loadc (v := .slice (some ⟨bs, os, none⟩) x.i.n x.i.c) rfl (c0.trans (by unfold Sc.v; rw [hse])) rfl rfl rfl rfl ?_
      (repeat first|refine zA ?_|refine zB ?_|refine zC ?_|refine zD ?_|refine zE ?_|refine zg ?_|refine zo rfl rfl (by first|exact trivial|(simp only[AllP];omega)|(simp(discharger:=omega)only[AllP,cA,cB];omega)|(simp only[AllP,cC,cD,cE,cF,cG];omega)) ?_|refine zn ?_|refine zb ?_|refine ze rfl ?_|refine zr ?_|refine zk ?_|refine zT rfl rfl rfl ?_|refine zU rfl rfl rfl ?_|refine zV rfl rfl rfl ?_|refine zf rfl ?_|refine zt rfl ?_)
      refine o_loadc rfl hsi rfl rfl rfl rfl ?_
      (repeat first|refine zA ?_|refine zB ?_|refine zC ?_|refine zD ?_|refine zE ?_|refine zg ?_|refine zo rfl rfl (by first|exact trivial|(simp only[AllP];omega)|(simp(discharger:=omega)only[AllP,cA,cB];omega)|(simp only[AllP,cC,cD,cE,cF,cG];omega)) ?_|refine zn ?_|refine zb ?_|refine ze rfl ?_|refine zr ?_|refine zk ?_|refine zT rfl rfl rfl ?_|refine zU rfl rfl rfl ?_|refine zV rfl rfl rfl ?_|refine zf rfl ?_|refine zt rfl ?_)
      refine r_no rfl (by simp) ?_
      (repeat first|refine zA ?_|refine zB ?_|refine zC ?_|refine zD ?_|refine zE ?_|refine zg ?_|refine zo rfl rfl (by first|exact trivial|(simp only[AllP];omega)|(simp(discharger:=omega)only[AllP,cA,cB];omega)|(simp only[AllP,cC,cD,cE,cF,cG];omega)) ?_|refine zn ?_|refine zb ?_|refine ze rfl ?_|refine zr ?_|refine zk ?_|refine zT rfl rfl rfl ?_|refine zU rfl rfl rfl ?_|refine zV rfl rfl rfl ?_|refine zf rfl ?_|refine zt rfl ?_)
      exact ⟨i + 1, rfl, ⟨rfl, by omega⟩, by omega⟩
    · (repeat first|refine zA ?_|refine zB ?_|refine zC ?_|refine zD ?_|refine zE ?_|refine zg ?_|refine zo rfl rfl (by first|exact trivial|(simp only[AllP];omega)|(simp(discharger:=omega)only[AllP,cA,cB];omega)|(simp only[AllP,cC,cD,cE,cF,cG];omega)) ?_|refine zn ?_|refine zb ?_|refine ze rfl ?_|refine zr ?_|refine zk ?_|refine zT rfl rfl rfl ?_|refine zU rfl rfl rfl ?_|refine zV rfl rfl rfl ?_|refine zf rfl ?_|refine zt rfl ?_)
      exact ⟨i + 1, rfl, ⟨rfl, by omega⟩, by omega⟩
  (repeat first|refine zA ?_|refine zB ?_|refine zC ?_|refine zD ?_|refine zE ?_|refine zg ?_|refine zo rfl rfl (by first|exact trivial|(simp only[AllP];omega)|(simp(discharger:=omega)only[AllP,cA,cB];omega)|(simp only[AllP,cC,cD,cE,cF,cG];omega)) ?_|refine zn ?_|refine zb ?_|refine ze rfl ?_|refine zr ?_|refine zk ?_|refine zT rfl rfl rfl ?_|refine zU rfl rfl rfl ?_|refine zV rfl rfl rfl ?_|refine zf rfl ?_|refine zt rfl ?_)
  refine r_loop (α := Nat) [0, 3, 4, 6] (fun i => [.pointer (some ⟨W, 8, none⟩), I k, I x.m, I i]) (fun i w2 => w = w2 ∧ i ≤ x.gr.n) (fun i => x.gr.n - i) 0 rfl ⟨rfl, by omega⟩ ?_
  rintro i e w2 ⟨rfl, hi⟩
  (repeat first|refine zA ?_|refine zB ?_|refine zC ?_|refine zD ?_|refine zE ?_|refine zg ?_|refine zo rfl rfl (by first|exact trivial|(simp only[AllP];omega)|(simp(discharger:=omega)only[AllP,cA,cB];omega)|(simp only[AllP,cC,cD,cE,cF,cG];omega)) ?_|refine zn ?_|refine zb ?_|refine ze rfl ?_|refine zr ?_|refine zk ?_|refine zT rfl rfl rfl ?_|refine zU rfl rfl rfl ?_|refine zV rfl rfl rfl ?_|refine zf rfl ?_|refine zt rfl ?_)
  refine o_load rfl hg.pi.hdr f3 rfl rfl rfl rfl ?_
  (repeat first|refine zA ?_|refine zB ?_|refine zC ?_|refine zD ?_|refine zE ?_|refine zg ?_|refine zo rfl rfl (by first|exact trivial|(simp only[AllP];omega)|(simp(discharger:=omega)only[AllP,cA,cB];omega)|(simp only[AllP,cC,cD,cE,cF,cG];omega)) ?_|refine zn ?_|refine zb ?_|refine ze rfl ?_|refine zr ?_|refine zk ?_|refine zT rfl rfl rfl ?_|refine zU rfl rfl rfl ?_|refine zV rfl rfl rfl ?_|refine zf rfl ?_|refine zt rfl ?_)
  refine o_loadc (v := .slice x.gr.a x.gr.n x.gr.c) rfl c3 rfl rfl rfl rfl ?_
  (repeat first|refine zA ?_|refine zB ?_|refine zC ?_|refine zD ?_|refine zE ?_|refine zg ?_|refine zo rfl rfl (by first|exact trivial|(simp only[AllP];omega)|(simp(discharger:=omega)only[AllP,cA,cB];omega)|(simp only[AllP,cC,cD,cE,cF,cG];omega)) ?_|refine zn ?_|refine zb ?_|refine ze rfl ?_|refine zr ?_|refine zk ?_|refine zT rfl rfl rfl ?_|refine zU rfl rfl rfl ?_|refine zV rfl rfl rfl ?_|refine zf rfl ?_|refine zt rfl ?_)
  refine r_if (p := (i : Int) < x.gr.n) rfl (fun hc2 => ?_) (fun hc2 => ?_)
  · have hil : i < x.gr.n := by omega
    obtain ⟨bm, om, hme, _, hmc⟩ := hX.gr.rd.at_ (by rw [List.length_replicate]; omega)
    have hmi := hmc i (.int .u64 (IntKind.u64.wrap x.m)) (by rw [List.getElem?_replicate, if_pos hil] <;> rfl)
    (repeat first|refine zA ?_|refine zB ?_|refine zC ?_|refine zD ?_|refine zE ?_|refine zg ?_|refine zo rfl rfl (by first|exact trivial|(simp only[AllP];omega)|(simp(discharger:=omega)only[AllP,cA,cB];omega)|(simp only[AllP,cC,cD,cE,cF,cG];omega)) ?_|refine zn ?_|refine zb ?_|refine ze rfl ?_|refine zr ?_|refine zk ?_|refine zT rfl rfl rfl ?_|refine zU rfl rfl rfl ?_|refine zV rfl rfl rfl ?_|refine zf rfl ?_|refine zt rfl ?_)
    refine o_load rfl hg.pi.hdr f3 rfl rfl rfl rfl ?_
    (repeat first|refine zA ?_|refine zB ?_|refine zC ?_|refine zD ?_|refine zE ?_|refine zg ?_|refine zo rfl rfl (by first|exact trivial|(simp only[AllP];omega)|(simp(discharger:=omega)only[AllP,cA,cB];omega)|(simp only[AllP,cC,cD,cE,cF,cG];omega)) ?_|refine zn ?_|refine zb ?_|refine ze rfl ?_|refine zr ?_|refine zk ?_|refine zT rfl rfl rfl ?_|refine zU rfl rfl rfl ?_|refine zV rfl rfl rfl ?_|refine zf rfl ?_|refine zt rfl ?_)
    refine o_loadc (v := .slice (some ⟨bm, om, none⟩) x.gr.n x.gr.c) rfl (c3.trans (by unfold Sc.v; rw [hme])) rfl rfl rfl rfl ?_
    (repeat first|refine zA ?_|refine zB ?_|refine zC ?_|refine zD ?_|refine zE ?_|refine zg ?_|refine zo rfl rfl (by first|exact trivial|(simp only[AllP];omega)|(simp(discharger:=omega)only[AllP,cA,cB];omega)|(simp only[AllP,cC,cD,cE,cF,cG];omega)) ?_|refine zn ?_|refine zb ?_|refine ze rfl ?_|refine zr ?_|refine zk ?_|refine zT rfl rfl rfl ?_|refine zU rfl rfl rfl ?_|refine zV rfl rfl rfl ?_|refine zf rfl ?_|refine zt rfl ?_)
    refine o_loadc rfl hmi rfl rfl rfl rfl ?_
    (repeat first|refine zA ?_|refine zB ?_|refine zC ?_|refine zD ?_|refine zE ?_|refine zg ?_|refine zo rfl rfl (by first|exact trivial|(simp only[AllP];omega)|(simp(discharger:=omega)only[AllP,cA,cB];omega)|(simp only[AllP,cC,cD,cE,cF,cG];omega)) ?_|refine zn ?_|refine zb ?_|refine ze rfl ?_|refine zr ?_|refine zk ?_|refine zT rfl rfl rfl ?_|refine zU rfl rfl rfl ?_|refine zV rfl rfl rfl ?_|refine zf rfl ?_|refine zt rfl ?_)
    refine o_is false 13 false rfl rfl rfl (by simp) ?_
    (repeat first|refine zA ?_|refine zB ?_|refine zC ?_|refine zD ?_|refine zE ?_|refine zg ?_|refine zo rfl rfl (by first|exact trivial|(simp only[AllP];omega)|(simp(discharger:=omega)only[AllP,cA,cB];omega)|(simp only[AllP,cC,cD,cE,cF,cG];omega)) ?_|refine zn ?_|refine zb ?_|refine ze rfl ?_|refine zr ?_|refine zk ?_|refine zT rfl rfl rfl ?_|refine zU rfl rfl rfl ?_|refine zV rfl rfl rfl ?_|refine zf rfl ?_|refine zt rfl ?_)
    refine o_load rfl hg.pi.hdr f2 rfl rfl rfl rfl ?_
    (repeat first|refine zA ?_|refine zB ?_|refine zC ?_|refine zD ?_|refine zE ?_|refine zg ?_|refine zo rfl rfl (by first|exact trivial|(simp only[AllP];omega)|(simp(discharger:=omega)only[AllP,cA,cB];omega)|(simp only[AllP,cC,cD,cE,cF,cG];omega)) ?_|refine zn ?_|refine zb ?_|refine ze rfl ?_|refine zr ?_|refine zk ?_|refine zT rfl rfl rfl ?_|refine zU rfl rfl rfl ?_|refine zV rfl rfl rfl ?_|refine zf rfl ?_|refine zt rfl ?_)
    refine o_loadc (v := .slice x.u.a x.u.n x.u.c) rfl c2 rfl rfl rfl rfl ?_
    (repeat first|refine zA ?_|refine zB ?_|refine zC ?_|refine zD ?_|refine zE ?_|refine zg ?_|refine zo rfl rfl (by first|exact trivial|(simp only[AllP];omega)|(simp(discharger:=omega)only[AllP,cA,cB];omega)|(simp only[AllP,cC,cD,cE,cF,cG];omega)) ?_|refine zn ?_|refine zb ?_|refine ze rfl ?_|refine zr ?_|refine zk ?_|refine zT rfl rfl rfl ?_|refine zU rfl rfl rfl ?_|refine zV rfl rfl rfl ?_|refine zf rfl ?_|refine zt rfl ?_)
    refine o_split 24 true rfl rfl rfl (fun hb => ?_) (fun hb => ?_)
    · have hil2 : i < x.u.n := by simpa using hb
      obtain ⟨bs, os, hse, _, hsc⟩ := hX.u.rd.at_ (by rw [List.length_replicate]; omega)
      have hsi := hsc i (.int .u64 (IntKind.u64.wrap x.m)) (by rw [List.getElem?_replicate, if_pos hil2] <;> rfl)
      (repeat first|refine zA ?_|refine zB ?_|refine zC ?_|refine zD ?_|refine zE ?_|refine zg ?_|refine zo rfl rfl (by first|exact trivial|(simp only[AllP];omega)|(simp(discharger:=omega)only[AllP,cA,cB];omega)|(simp only[AllP,cC,cD,cE,cF,cG];omega)) ?_|refine zn ?_|refine zb ?_|refine ze rfl ?_|refine zr ?_|refine zk ?_|refine zT rfl rfl rfl ?_|refine zU rfl rfl rfl ?_|refine zV rfl rfl rfl ?_|refine zf rfl ?_|refine zt rfl ?_)
      refine o_load rfl hg.pi.hdr f2 rfl rfl rfl rfl ?_
      (repeat first|refine zA ?_|refine zB ?_|refine zC ?_|refine zD ?_|refine zE ?_|refine zg ?_|refine zo rfl rfl (by first|exact trivial|(simp only[AllP];omega)|(simp(discharger:=omega)only[AllP,cA,cB];omega)|(simp only[AllP,cC,cD,cE,cF,cG];omega)) ?_|refine zn ?_|refine zb ?_|refine ze rfl ?_|refine zr ?_|refine zk ?_|refine zT rfl rfl rfl ?_|refine zU rfl rfl rfl ?_|refine zV rfl rfl rfl ?_|refine zf rfl ?_|refine zt rfl ?_)
      refine o_loadc (v := .slice (some ⟨bs, os, none⟩) x.u.n x.u.c) rfl (c2.trans (by unfold Sc.v; rw [hse])) rfl rfl rfl rfl ?_
      (repeat first|refine zA ?_|refine zB ?_|refine zC ?_|refine zD ?_|refine zE ?_|refine zg ?_|refine zo rfl rfl (by first|exact trivial|(simp only[AllP];omega)|(simp(discharger:=omega)only[AllP,cA,cB];omega)|(simp only[AllP,cC,cD,cE,cF,cG];omega)) ?_|refine zn ?_|refine zb ?_|refine ze rfl ?_|refine zr ?_|refine zk ?_|refine zT rfl rfl rfl ?_|refine zU rfl rfl rfl ?_|refine zV rfl rfl rfl ?_|refine zf rfl ?_|refine zt rfl ?_)
      refine o_loadc rfl hsi rfl rfl rfl rfl ?_
      (repeat first|refine zA ?_|refine zB ?_|refine zC ?_|refine zD ?_|refine zE ?_|refine zg ?_|refine zo rfl rfl (by first|exact trivial|(simp only[AllP];omega)|(simp(discharger:=omega)only[AllP,cA,cB];omega)|(simp only[AllP,cC,cD,cE,cF,cG];omega)) ?_|refine zn ?_|refine zb ?_|refine ze rfl ?_|refine zr ?_|refine zk ?_|refine zT rfl rfl rfl ?_|refine zU rfl rfl rfl ?_|refine zV rfl rfl rfl ?_|refine zf rfl ?_|refine zt rfl ?_)
      refine r_no rfl (by simp) ?_
      (repeat first|refine zA ?_|refine zB ?_|refine zC ?_|refine zD ?_|refine zE ?_|refine zg ?_|refine zo rfl rfl (by first|exact trivial|(simp only[AllP];omega)|(simp(discharger:=omega)only[AllP,cA,cB];omega)|(simp only[AllP,cC,cD,cE,cF,cG];omega)) ?_|refine zn ?_|refine zb ?_|refine ze rfl ?_|refine zr ?_|refine zk ?_|refine zT rfl rfl rfl ?_|refine zU rfl rfl rfl ?_|refine zV rfl rfl rfl ?_|refine zf rfl ?_|refine zt rfl ?_)
      exact ⟨i + 1, rfl, ⟨rfl, by omega⟩, by omega⟩
    · (repeat first|refine zA ?_|refine zB ?_|refine zC ?_|refine zD ?_|refine zE ?_|refine zg ?_|refine zo rfl rfl (by first|exact trivial|(simp only[AllP];omega)|(simp(discharger:=omega)only[AllP,cA,cB];omega)|(simp only[AllP,cC,cD,cE,cF,cG];omega)) ?_|refine zn ?_|refine zb ?_|refine ze rfl ?_|refine zr ?_|refine zk ?_|refine zT rfl rfl rfl ?_|refine zU rfl rfl rfl ?_|refine zV rfl rfl rfl ?_|refine zf rfl ?_|refine zt rfl ?_)
      exact ⟨i + 1, rfl, ⟨rfl, by omega⟩, by omega⟩
  (repeat first|refine zA ?_|refine zB ?_|refine zC ?_|refine zD ?_|refine zE ?_|refine zg ?_|refine zo rfl rfl (by first|exact trivial|(simp only[AllP];omega)|(simp(discharger:=omega)only[AllP,cA,cB];omega)|(simp only[AllP,cC,cD,cE,cF,cG];omega)) ?_|refine zn ?_|refine zb ?_|refine ze rfl ?_|refine zr ?_|refine zk ?_|refine zT rfl rfl rfl ?_|refine zU rfl rfl rfl ?_|refine zV rfl rfl rfl ?_|refine zf rfl ?_|refine zt rfl ?_)
  exact ⟨k + 1, rfl, ⟨rfl, by omega⟩, by omega⟩
set_option maxHeartbeats 1600000 in
theorem told_ret (hg : PX w0 w W sl g) (hcnt : g.sqs.length ≤ 1073741824) :
    Ret Tryd.prog 57 [.pointer (some ⟨W, 8, none⟩)] w (fun v w' => v = .bool true ∧ Kp [] w w') := by
  obtain ⟨_, _, _, _, _, l5, l6⟩ := hg.rows.len
  refine enter Tryd.call57 Tryd.func57 rfl rfl rfl rfl ?_
  (repeat first|refine zA ?_|refine zB ?_|refine zC ?_|refine zD ?_|refine zE ?_|refine zg ?_|refine zo rfl rfl (by first|exact trivial|(simp only[AllP];omega)|(simp(discharger:=omega)only[AllP,cA,cB];omega)|(simp only[AllP,cC,cD,cE,cF,cG];omega)) ?_|refine zn ?_|refine zb ?_|refine ze rfl ?_|refine zr ?_|refine zk ?_|refine zT rfl rfl rfl ?_|refine zU rfl rfl rfl ?_|refine zV rfl rfl rfl ?_|refine zf rfl ?_|refine zt rfl ?_)
  refine r_loop (α := Nat) [0, 3] (fun k => [.pointer (some ⟨W, 8, none⟩), I k]) (fun k w1 => Kp [] w w1 ∧ k ≤ g.sqs.length) (fun k => g.sqs.length - k) 0 rfl ⟨Kp.refl _ _, by omega⟩ ?_
  rintro k e w1 ⟨hk1, hk⟩
  have hg1 := hg.kp0 hk1
  (repeat first|refine zA ?_|refine zB ?_|refine zC ?_|refine zD ?_|refine zE ?_|refine zg ?_|refine zo rfl rfl (by first|exact trivial|(simp only[AllP];omega)|(simp(discharger:=omega)only[AllP,cA,cB];omega)|(simp only[AllP,cC,cD,cE,cF,cG];omega)) ?_|refine zn ?_|refine zb ?_|refine ze rfl ?_|refine zr ?_|refine zk ?_|refine zT rfl rfl rfl ?_|refine zU rfl rfl rfl ?_|refine zV rfl rfl rfl ?_|refine zf rfl ?_|refine zt rfl ?_)
  refine o_load (v := .slice (g.ad 5) (g.row 5).length (g.cp 5)) rfl hg1.pi.hdr rfl rfl rfl rfl rfl ?_
  (repeat first|refine zA ?_|refine zB ?_|refine zC ?_|refine zD ?_|refine zE ?_|refine zg ?_|refine zo rfl rfl (by first|exact trivial|(simp only[AllP];omega)|(simp(discharger:=omega)only[AllP,cA,cB];omega)|(simp only[AllP,cC,cD,cE,cF,cG];omega)) ?_|refine zn ?_|refine zb ?_|refine ze rfl ?_|refine zr ?_|refine zk ?_|refine zT rfl rfl rfl ?_|refine zU rfl rfl rfl ?_|refine zV rfl rfl rfl ?_|refine zf rfl ?_|refine zt rfl ?_)
  refine r_if (p := (k : Int) < (g.row 5).length) rfl (fun hc => ?_) (fun hc => ?_)
  rotate_left
  · (repeat first|refine zA ?_|refine zB ?_|refine zC ?_|refine zD ?_|refine zE ?_|refine zg ?_|refine zo rfl rfl (by first|exact trivial|(simp only[AllP];omega)|(simp(discharger:=omega)only[AllP,cA,cB];omega)|(simp only[AllP,cC,cD,cE,cF,cG];omega)) ?_|refine zn ?_|refine zb ?_|refine ze rfl ?_|refine zr ?_|refine zk ?_|refine zT rfl rfl rfl ?_|refine zU rfl rfl rfl ?_|refine zV rfl rfl rfl ?_|refine zf rfl ?_|refine zt rfl ?_)
    exact ⟨_, rfl, rfl, hk1⟩
  have hlt : k < g.sqs.length := by omega
  obtain ⟨s, hs⟩ : ∃ x, g.sqs[k]? = some x := ⟨_, List.getElem?_eq_getElem hlt⟩
  obtain ⟨t, ht⟩ : ∃ x, g.wts[k]? = some x := ⟨_, List.getElem?_eq_getElem (by rw [hg.pc.n]; exact hlt)⟩
  obtain ⟨_, hxl, Fp, hsp, _⟩ := hg1.pc.sq s (List.mem_of_getElem? hs)
  obtain ⟨htn, htr, htc, _⟩ := hg1.pc.wt k t s ht hs
  obtain ⟨b5, o5, f5, c5, t5⟩ := hg1.pi.row_at (j := 5) (k := k) (v := s.1) (by omega) (by rw [hg.rows.r5, List.getElem?_map, hs]; rfl)
  obtain ⟨b6, o6, f6, c6, t6⟩ := hg1.pi.row_at (j := 6) (k := k) (v := t.v) (by omega) (by rw [hg.rows.r6, List.getElem?_map, ht]; rfl)
  have hwn := hg.pc.n
  obtain ⟨v, xs⟩ := s
  obtain ⟨ta, tn, tc⟩ := t
  dsimp only at hsp htn htr htc hxl c5
  subst htn
  have c6 : w1.cell? ⟨b6, o6 + k, none⟩ = some (.slice ta xs.length tc) := c6
  (repeat first|refine zA ?_|refine zB ?_|refine zC ?_|refine zD ?_|refine zE ?_|refine zg ?_|refine zo rfl rfl (by first|exact trivial|(simp only[AllP];omega)|(simp(discharger:=omega)only[AllP,cA,cB];omega)|(simp only[AllP,cC,cD,cE,cF,cG];omega)) ?_|refine zn ?_|refine zb ?_|refine ze rfl ?_|refine zr ?_|refine zk ?_|refine zT rfl rfl rfl ?_|refine zU rfl rfl rfl ?_|refine zV rfl rfl rfl ?_|refine zf rfl ?_|refine zt rfl ?_)
  refine o_load rfl hg1.pi.hdr f6 rfl rfl rfl rfl ?_
  (repeat first|refine zA ?_|refine zB ?_|refine zC ?_|refine zD ?_|refine zE ?_|refine zg ?_|refine zo rfl rfl (by first|exact trivial|(simp only[AllP];omega)|(simp(discharger:=omega)only[AllP,cA,cB];omega)|(simp only[AllP,cC,cD,cE,cF,cG];omega)) ?_|refine zn ?_|refine zb ?_|refine ze rfl ?_|refine zr ?_|refine zk ?_|refine zT rfl rfl rfl ?_|refine zU rfl rfl rfl ?_|refine zV rfl rfl rfl ?_|refine zf rfl ?_|refine zt rfl ?_)
  refine o_loadc rfl c6 rfl rfl rfl rfl ?_
  (repeat first|refine zA ?_|refine zB ?_|refine zC ?_|refine zD ?_|refine zE ?_|refine zg ?_|refine zo rfl rfl (by first|exact trivial|(simp only[AllP];omega)|(simp(discharger:=omega)only[AllP,cA,cB];omega)|(simp only[AllP,cC,cD,cE,cF,cG];omega)) ?_|refine zn ?_|refine zb ?_|refine ze rfl ?_|refine zr ?_|refine zk ?_|refine zT rfl rfl rfl ?_|refine zU rfl rfl rfl ?_|refine zV rfl rfl rfl ?_|refine zf rfl ?_|refine zt rfl ?_)
  have eh : Int.tdiv (xs.length : Int) 2 = ((xs.length / 2 : Nat) : Int) := by rw [Int.tdiv_eq_ediv_of_nonneg (by omega)]; omega
  rw [eh]
  have hh : xs.length / 2 ≤ xs.length := by omega
  generalize xs.length / 2 = hf at hh ⊢
  have eg : goneL xs (hf : Int) = xs.take hf := by unfold goneL; rw [if_pos (by omega)]; simp
  have eg1 : goneL xs (-1) = xs := rfl
  refine r_seq ?_
  refine r_mix (fun w' => Kp [] w1 w') [(0, false), (1, false), (2, false), (3, false), (4, false), (5, false), (6, false), (7, false), (9, false), (10, false), (11, false), (12, false), (13, false), (14, false), (15, false), (16, false), (17, false), (8, true), (18, true), (19, false), (20, false), (21, false), (22, false), (23, false), (24, false), (25, false), (26, false), (27, false), (29, false), (30, false), (31, false), (32, false), (33, false), (34, false), (35, false), (28, true), (36, true), (37, false), (38, false)] follows_mixed (by kernel_rfl) (by kernel_rfl) (by kernel_rfl) ((Sm.drew w1).kp []) ?_
  have hk0 := (Sm.drew w1).kp []
  generalize ({ w1 with drawn := w1.drawn + 1 } : World) = we at hk0 ⊢
  have fB : ∀ w', Kp [] w1 w' → Blk w' W _ _ := fun w' hk => hk.blk (by simp) hg1.pi.hdr
  have fS : ∀ w', Kp [] w1 w' → w'.cell? ⟨b5, o5 + k, none⟩ = some v := fun w' hk => by
    rw [← c5]
    exact World.cell?_of_block (hk.at_ b5 t5 (by simp))
  have fW : ∀ w', Kp [] w1 w' → w'.cell? ⟨b6, o6 + k, none⟩ = some (.slice ta xs.length tc) := fun w' hk => by
    rw [← c6]
    exact World.cell?_of_block (hk.at_ b6 t6 (by simp))
  (repeat first|refine xo rfl rfl (by first|exact trivial|(simp only[AllP];omega)|(simp(discharger:=omega)only[AllP,cA,cB];omega)|(simp only[AllP,cC,cD,cE,cF,cG];omega)) ?_|refine xn ?_|refine x_know rfl _ _ (some true) rfl rfl rfl ?_|refine x_know rfl _ _ (some false) rfl rfl rfl ?_|refine x_know rfl _ _ none rfl rfl rfl ?_)
  refine x_load (v := .slice (some ⟨b5, o5, none⟩) (g.row 5).length (g.cp 5)) rfl rfl (fun w' hk => (fB w' hk).cell f5) rfl rfl rfl rfl ?_
  (repeat first|refine xo rfl rfl (by first|exact trivial|(simp only[AllP];omega)|(simp(discharger:=omega)only[AllP,cA,cB];omega)|(simp only[AllP,cC,cD,cE,cF,cG];omega)) ?_|refine xn ?_|refine x_know rfl _ _ (some true) rfl rfl rfl ?_|refine x_know rfl _ _ (some false) rfl rfl rfl ?_|refine x_know rfl _ _ none rfl rfl rfl ?_)
  refine x_load (v := v) rfl rfl fS rfl rfl rfl rfl ?_
  (repeat first|refine xo rfl rfl (by first|exact trivial|(simp only[AllP];omega)|(simp(discharger:=omega)only[AllP,cA,cB];omega)|(simp only[AllP,cC,cD,cE,cF,cG];omega)) ?_|refine xn ?_|refine x_know rfl _ _ (some true) rfl rfl rfl ?_|refine x_know rfl _ _ (some false) rfl rfl rfl ?_|refine x_know rfl _ _ none rfl rfl rfl ?_)
  refine x_load (v := .slice (some ⟨b6, o6, none⟩) (g.row 6).length (g.cp 6)) rfl rfl (fun w' hk => (fB w' hk).cell f6) rfl rfl rfl rfl ?_
  (repeat first|refine xo rfl rfl (by first|exact trivial|(simp only[AllP];omega)|(simp(discharger:=omega)only[AllP,cA,cB];omega)|(simp only[AllP,cC,cD,cE,cF,cG];omega)) ?_|refine xn ?_|refine x_know rfl _ _ (some true) rfl rfl rfl ?_|refine x_know rfl _ _ (some false) rfl rfl rfl ?_|refine x_know rfl _ _ none rfl rfl rfl ?_)
  refine x_load rfl rfl fW rfl rfl rfl rfl ?_
  (repeat first|refine xo rfl rfl (by first|exact trivial|(simp only[AllP];omega)|(simp(discharger:=omega)only[AllP,cA,cB];omega)|(simp only[AllP,cC,cD,cE,cF,cG];omega)) ?_|refine xn ?_|refine x_know rfl _ _ (some true) rfl rfl rfl ?_|refine x_know rfl _ _ (some false) rfl rfl rfl ?_|refine x_know rfl _ _ none rfl rfl rfl ?_)
  refine x_act rfl ?_
  have hse := hsp.kp hk0 (by simp)
  refine o_call (gone_ret hse hxl (most := (hf : Int)) (by omega)) rfl rfl rfl ?_
  rintro v1 w9 ⟨ad9, cap9, rfl, hn9⟩
  rw [eg] at hn9 ⊢
  have k9 := hk0.trans hn9.kp
  refine o_nil ⟨.inr k9, ?_⟩
  (repeat first|refine xo rfl rfl (by first|exact trivial|(simp only[AllP];omega)|(simp(discharger:=omega)only[AllP,cA,cB];omega)|(simp only[AllP,cC,cD,cE,cF,cG];omega)) ?_|refine xn ?_|refine x_know rfl _ _ (some true) rfl rfl rfl ?_|refine x_know rfl _ _ (some false) rfl rfl rfl ?_|refine x_know rfl _ _ none rfl rfl rfl ?_)
  refine x_act rfl ?_
  have q1 := hn9.read
  have q2 := (htr.kp k9 (by simp)).take hf
  rw [← List.map_take] at q2
  rw [map_encI] at q1 q2
  refine o_call (same_yes (n2 := ((hf : Nat) : Int).toNat) (c2 := tc) q1 q2 (by simp) (by simp; omega) (by simp; omega)) rfl rfl rfl ?_
  rintro v2 w10 ⟨rfl, hs10⟩
  have k10 := k9.trans (hs10.kp [])
  refine o_nil ⟨.inr k10, ?_⟩
  (repeat first|refine xo rfl rfl (by first|exact trivial|(simp only[AllP];omega)|(simp(discharger:=omega)only[AllP,cA,cB];omega)|(simp only[AllP,cC,cD,cE,cF,cG];omega)) ?_|refine xn ?_|refine x_know rfl _ _ (some true) rfl rfl rfl ?_|refine x_know rfl _ _ (some false) rfl rfl rfl ?_|refine x_know rfl _ _ none rfl rfl rfl ?_)
  refine x_load (v := .slice (some ⟨b5, o5, none⟩) (g.row 5).length (g.cp 5)) rfl rfl (fun w' hk => (fB w' hk).cell f5) rfl rfl rfl rfl ?_
  (repeat first|refine xo rfl rfl (by first|exact trivial|(simp only[AllP];omega)|(simp(discharger:=omega)only[AllP,cA,cB];omega)|(simp only[AllP,cC,cD,cE,cF,cG];omega)) ?_|refine xn ?_|refine x_know rfl _ _ (some true) rfl rfl rfl ?_|refine x_know rfl _ _ (some false) rfl rfl rfl ?_|refine x_know rfl _ _ none rfl rfl rfl ?_)
  refine x_load (v := v) rfl rfl fS rfl rfl rfl rfl ?_
  (repeat first|refine xo rfl rfl (by first|exact trivial|(simp only[AllP];omega)|(simp(discharger:=omega)only[AllP,cA,cB];omega)|(simp only[AllP,cC,cD,cE,cF,cG];omega)) ?_|refine xn ?_|refine x_know rfl _ _ (some true) rfl rfl rfl ?_|refine x_know rfl _ _ (some false) rfl rfl rfl ?_|refine x_know rfl _ _ none rfl rfl rfl ?_)
  refine x_load (v := .slice (some ⟨b6, o6, none⟩) (g.row 6).length (g.cp 6)) rfl rfl (fun w' hk => (fB w' hk).cell f6) rfl rfl rfl rfl ?_
  (repeat first|refine xo rfl rfl (by first|exact trivial|(simp only[AllP];omega)|(simp(discharger:=omega)only[AllP,cA,cB];omega)|(simp only[AllP,cC,cD,cE,cF,cG];omega)) ?_|refine xn ?_|refine x_know rfl _ _ (some true) rfl rfl rfl ?_|refine x_know rfl _ _ (some false) rfl rfl rfl ?_|refine x_know rfl _ _ none rfl rfl rfl ?_)
  refine x_load rfl rfl fW rfl rfl rfl rfl ?_
  (repeat first|refine xo rfl rfl (by first|exact trivial|(simp only[AllP];omega)|(simp(discharger:=omega)only[AllP,cA,cB];omega)|(simp only[AllP,cC,cD,cE,cF,cG];omega)) ?_|refine xn ?_|refine x_know rfl _ _ (some true) rfl rfl rfl ?_|refine x_know rfl _ _ (some false) rfl rfl rfl ?_|refine x_know rfl _ _ none rfl rfl rfl ?_)
  refine x_act rfl ?_
  have hse2 := hsp.kp k10 (by simp)
  refine o_call (gone_ret hse2 hxl (most := -1) (by omega)) rfl rfl rfl ?_
  rintro v3 w11 ⟨ad11, cap11, rfl, hn11⟩
  rw [eg1] at hn11 ⊢
  have k11 := k10.trans hn11.kp
  refine o_nil ⟨.inr k11, ?_⟩
  refine x_act rfl ?_
  have q3 := hn11.read
  have q4 := htr.kp k11 (by simp)
  rw [map_encI] at q3 q4
  refine o_call (same_yes (c2 := tc) q3 q4 (by simp) (by simp) (by omega)) rfl rfl rfl ?_
  rintro v4 w12 ⟨rfl, hs12⟩
  have k12 := k11.trans (hs12.kp [])
  refine o_nil ⟨.inr k12, ?_⟩
  (repeat first|refine xo rfl rfl (by first|exact trivial|(simp only[AllP];omega)|(simp(discharger:=omega)only[AllP,cA,cB];omega)|(simp only[AllP,cC,cD,cE,cF,cG];omega)) ?_|refine xn ?_|refine x_know rfl _ _ (some true) rfl rfl rfl ?_|refine x_know rfl _ _ (some false) rfl rfl rfl ?_|refine x_know rfl _ _ none rfl rfl rfl ?_)
  (repeat first|refine zA ?_|refine zB ?_|refine zC ?_|refine zD ?_|refine zE ?_|refine zg ?_|refine zo rfl rfl (by first|exact trivial|(simp only[AllP];omega)|(simp(discharger:=omega)only[AllP,cA,cB];omega)|(simp only[AllP,cC,cD,cE,cF,cG];omega)) ?_|refine zn ?_|refine zb ?_|refine ze rfl ?_|refine zr ?_|refine zk ?_|refine zT rfl rfl rfl ?_|refine zU rfl rfl rfl ?_|refine zV rfl rfl rfl ?_|refine zf rfl ?_|refine zt rfl ?_)
  exact ⟨k + 1, rfl, ⟨hk1.trans k12, by omega⟩, by omega⟩
end
end Go.Vc
