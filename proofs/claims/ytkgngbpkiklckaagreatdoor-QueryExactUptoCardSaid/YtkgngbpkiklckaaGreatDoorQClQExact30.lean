/- Parts of a proof. -/
import Derived.Test.YtkgngbpkiklckaaGreatDoorQClQExact29
set_option maxHeartbeats 12800000
namespace Go.Vc
open Go Go.Proofs
set_option maxRecDepth 20000
section
variable {w : World}
structure Rep where
 sort : Int
 num : Int
 truth : Bool
 steps : Int
 deriving DecidableEq
def repC (r : Rep) : List Value := [I r.sort, I r.num, .bool r.truth, I r.steps]
def rep0 : Rep := ⟨0, 0, false, 0⟩
noncomputable def Jp0 (s : Shp) (E : List Ev) : Int := if Jf2 s = false then 5 else if 2048 < E.length then 3 else if Jp1 (okTo s E E.length) then 0 else 6
theorem Ql7 {s : Shp} {E : List Ev} {e : Int} (h : badO s E e) : Jp0 s E = e ∧ e ≠ 0 := by
 unfold Jp0
 rcases h with ⟨rfl, h⟩ | ⟨rfl, h1, h2⟩ | ⟨rfl, h1, h2, h3⟩
 ·rw [if_pos h]; exact ⟨rfl, dE⟩
 ·rw [if_neg (by rw [h1]; simp), if_pos h2]; exact ⟨rfl, dE⟩
 ·rw [if_neg (by rw [h1]; simp), if_neg oM, if_neg (by rw [Ji4]; exact h3)]; exact ⟨rfl, dE⟩
theorem Qi2 {s : Shp} {E : List Ev} (h1 : Jf2 s = true) (h2 : E.length ≤ 2048) (h3 : okTo s E E.length) : Jp0 s E = 0 := by
 unfold Jp0
 rw [if_neg (by rw [h1]; simp), if_neg oM, if_pos (Ji4.2 h3)]
def fuelM (a : Int × Nat) (sort fuel : Int) : Rep × Int :=
 if fuel < 0 ∨ 67108864 < fuel then (rep0, 2) else if fuel < a.2 then (rep0, 306) else if sort = 2 then (⟨2, 0, decide (a.1 = 1), a.2⟩, 0) else (⟨sort, a.1, false, a.2⟩, 0)
noncomputable def askM (l : List QN) (s : Shp) (E : List Ev) (fuel : Int) : Rep × Int :=
 match Jh9 l with
 | .error c => (rep0, c)
 | .ok t => if Jp0 s E = 0 then fuelM (evq (qwO E (rnds s E E.length)) t fun _ => 0) (Jb2 t.op.toNat) fuel else (rep0, Jp0 s E)
theorem Ask_ret {l : List QN} {ad pad ead : Option Addr} {cap pcap ecap : Nat} {s : Shp} {E : List Ev} {fuel : Int} (hA : AscW w) (hR : Rows w ad cap l) (hp : Ja7 w pad (s.pa.map I)) (hpl : s.pa.length ≤ 1048576) (he : Ja7 w ead (evsC E)) (hel : E.length ≤ 1048576) :
  Ret Tryz.prog 17 [qV ad l.length cap, .agg ⟨shC s pad pcap⟩, .slice ead E.length ecap, I fuel] w (fun v w' => v = .tuple #[.agg ⟨repC (askM l s E fuel).1⟩, I (askM l s E fuel).2] ∧ Kp [] w w') := by
 refine Zd Tryz.call17 Tryz.func17 ?_
 refine zS ?_
 refine Zx ?_
 intro b4 w1 e4 hu1
 have k1 : Kp [] w w1 := hu1.new oM
 refine Zx ?_
 intro b5 w2 e5 hu2
 have l1 := hu1.lt
 have k2 : Kp [] w1 w2 := hu2.new oM
 refine Za ?_
 intro b8 w3 e8 hu3
 have l2 := hu2.lt
 have k3 : Kp [] w2 w3 := hu3.new oM
 have h4 : Blk w3 b4 [.slice ad l.length cap] 24 := (k2.trans k3).b0 hu1.blk
 have h5 : Blk w3 b5 (shC s pad pcap) 27 := k3.b0 hu2.blk
 have h8 : Blk w3 b8 (repC rep0) 45 := hu3.blk
 have k03 := (k1.trans k2).trans k3
 have y1 := k1.size
 have y2 := k2.size
 have hb8 : w.heap.size ≤ b8 := oM
 clear hu1 hu2 hu3
 have bad : ∀ {e : Env} {W : World} {r : Rep} {x : Int}, e 8 = ptr b8 → e 9 = I x → Blk W b8 (repC r) 45 → resC Tryz.prog e W [.cell 8 45, .tmp 9] [.agg ⟨repC r⟩, I x] := fun h1 h2 h3 =>
  ⟨⟨_, h1, Jb9 h3 rfl rfl rfl rfl⟩, ⟨none, by rw [h2]; rfl⟩, trivial⟩
 have hask : askM l s E fuel = match Jh9 l with
  | .error c => (rep0, c)
  | .ok t => if Jp0 s E = 0 then fuelM (evq (qwO E (rnds s E E.length)) t fun _ => 0) (Jb2 t.op.toNat) fuel else (rep0, Jp0 s E) := rfl
 refine zS ?_
 refine Zm (vs := [.slice ad l.length cap]) rfl h4.cs ?_
 refine Zc (Ql3 (hA.kp k03 sI) (hR.kp k03 sI)) ?_
 rintro v w4 ⟨hv, k4⟩
 have k04 := k03.trans k4
 have h84 := k4.b0 h8
 have h54 := k4.b0 h5
 cases hl : Jh9 l with
 | error c =>
  rw [hl] at hv hask
  have hv : v = .tuple #[.pointer none, I c] := hv
  have hc : c ≠ 0 := by
   unfold Jh9 at hl
   split at hl
   ·cases hl; decide
   ·split at hl
    ·cases hl; decide
    ·split at hl
     ·cases hl; decide
     ·cases hl
  subst hv
  rw [hask]
  refine zS ?_
  refine Jn8 rfl (fun _ => ?_) (fun h => absurd h hc)
  refine zS ?_
  refine Zb (repC rep0) ?_
  refine zS ?_
  refine Zs (b := b8) (cs := repC rep0) rfl h84 lR rfl (by simp [Value.oneCell', repC]) ?_
  intro w5 hu5
  refine zS ?_
  exact ⟨_, bad rfl rfl hu5.blk, rfl, k04.since (hu5.kp [b8] (.inl sI)) (by simpa using hb8)⟩
 | ok t =>
  rw [hl] at hv hask
  have hask : askM l s E fuel = if Jp0 s E = 0 then fuelM (evq (qwO E (rnds s E E.length)) t fun _ => 0) (Jb2 t.op.toNat) fuel else (rep0, Jp0 s E) := hask
  obtain ⟨tp, rfl, hT⟩ := hv
  obtain ⟨hgd, _, _⟩ := Jm7 (l := l) hR.num (by
   unfold Jh9 at hl
   split at hl
   ·cases hl
   ·rename_i t' ht'
    split at hl
    ·cases hl
    ·split at hl
     ·cases hl
     ·cases hl; exact ht')
  refine zS ?_
  refine Zm (vs := shC s pad pcap) rfl h54.cs ?_
  refine zS ?_
  refine Zc (oNew_ret (hp.kp k04 sI) hpl (he.kp k04 sI) hel) ?_
  rintro v w5 (⟨e, hbad, rfl, k5⟩ | ⟨hs1, hs2, hs3, og, rfl, hO5, k5, hog⟩)
  ·obtain ⟨ho1, ho2⟩ := Ql7 hbad
   rw [hask, ho1, if_neg ho2]
   have h85 := k5.b0 h84
   refine zS ?_
   refine Jn8 rfl (fun _ => ?_) (fun h => absurd h ho2)
   refine zS ?_
   refine Zb (repC rep0) ?_
   refine zS ?_
   refine Zs (b := b8) (cs := repC rep0) rfl h85 lR rfl (by simp [Value.oneCell', repC]) ?_
   intro w6 hu6
   refine zS ?_
   exact ⟨_, bad rfl rfl hu6.blk, rfl, (k04.trans k5).since (hu6.kp [b8] (.inl sI)) (by simpa using hb8)⟩
  rw [Qi2 hs1 hs2 hs3, if_pos rfl] at hask
  have k05 := k04.trans k5
  have h85 := k5.b0 h84
  rw [hask]
  unfold fuelM
  refine zS ?_
  refine Jn9 [3, 8, 10, 12] [I fuel, ptr b8, ptr tp, ptr og.p] 41 (decide (fuel < 0 ∨ 67108864 < fuel)) (fun W => W = w5) ?_ ?_
  ·refine Ja5 _ _ rfl rfl rfl (fun h1 => ?_) (fun h1 => ?_)
   ·have h1 : fuel < 0 := of_decide_eq_true h1
    refine zS ?_
    exact ⟨rfl, ⟨_, rfl, by simp [h1]⟩, rfl⟩
   ·have h1 : ¬ fuel < 0 := of_decide_eq_false h1
    refine zS ?_
    exact ⟨rfl, ⟨_, rfl, by rw [decide_eq_decide]; omega⟩, rfl⟩
  rintro e5' w5' rfl
  refine Je1 rfl (fun hb => ?_) (fun hb => ?_)
  ·have hb := of_decide_eq_true hb
   rw [if_pos hb]
   refine zS ?_
   refine Zb (repC rep0) ?_
   refine Zs (b := b8) (cs := repC rep0) rfl h85 lR rfl (by simp [Value.oneCell', repC]) ?_
   intro w6 hu6
   refine zS ?_
   exact ⟨_, bad rfl rfl hu6.blk, rfl, k05.since (hu6.kp [b8] (.inl sI)) (by simpa using hb8)⟩
  have hb := of_decide_eq_false hb
  rw [if_neg hb]
  obtain ⟨fu, rfl⟩ : ∃ fu : Nat, fuel = fu := ⟨fuel.toNat, oM⟩
  have y4 := k04.size
  have y5 := k05.size
  refine zS ?_
  refine Jb5 (v := .map (some w5'.heap.size)) (w' := w5'.alloc (.map #[] 0)) rfl rfl (by
   have hr : (Instr.makeMap 112 none).run Tryz.prog w5' = .ok (.map (some w5'.heap.size)) (w5'.alloc (.map #[] 0)) := rfl
   simp only [execOp, Sem.run_bind, Option.map_none, hr, Result.andThen_ok, Sem.run_pure]) ?_
  have hua := Je2 w5' (.map #[] 0)
  generalize w5'.alloc (.map #[] 0) = w6 at hua ⊢
  have k6 : Kp [] w5' w6 := hua.kp [] (.inr lR)
  have hmap : MapT w6 w5'.heap.size (fun _ => none) := ⟨#[], 0, hua.at_, Jn3.nil⟩
  have l6 := hua.lt
  refine zS ?_
  refine Zb [ptr og.p, .map (some w5'.heap.size), I 0, I fu] ?_
  refine Zx ?_
  intro mp w7 e7 hu7
  have k7 : Kp [] w6 w7 := hu7.new oM
  have l7 := hu7.lt
  have k57 := k6.trans k7
  let g : MG := ⟨mp, w5'.heap.size, og, E, rnds s E E.length, fu⟩
  have hgF : g.F = [mp, w5'.heap.size] := rfl
  have hok : g.Ok := by
   refine ⟨by show mp ≠ w5'.heap.size; omega, fun b hb => ?_, by show fu ≤ 67108864; omega⟩
   have := hO5.fl b hb
   rw [hgF]; simp; omega
  have hM7 : MAt w7 g (fun _ => none) 0 := ⟨hu7.blk, hmap.kp k7 sI, hO5.kp0 k57⟩
  have k47 := k5.trans k57
  have hFT : ∀ b ∈ g.F, w4.heap.size ≤ b := by
   have y5' := k5.size
   intro b hb
   rw [hgF] at hb
   simp only [List.mem_cons, List.not_mem_nil, or_false] at hb
   omega
  have h87 := k57.b0 h85
  clear hu7 hua
  refine zS ?_
  refine Zc (run_ret (g := g) hgd hT k47 hFT hM7 hok) ?_
  generalize hans : evq (QO g) t (fun _ => 0) = ans
  have hans : evq (qwO E (rnds s E E.length)) t (fun _ => 0) = ans := hans
  try rw [hans]
  rintro v w8 ⟨hv, k8⟩
  have k08 : Kp [] w w8 := (k04.trans k47).since k8 (fun b hb => by have := hFT b hb; omega)
  have h8F : b8 ∉ g.F := by have := h85.lt; rw [hgF]; simp; omega
  have h88 := k8.blk h8F h87
  have hT8 : Jc3 shQ w4.heap.size w8 t tp ∨ True := .inr trivial
  obtain ⟨bad', bcap', ks', _, hBt, _, _, _⟩ := hT.view
  have hB8 := (k47.since k8 hFT).b0 hBt
  have hans2 : (Jb2 t.op.toNat = 1 ∨ Jb2 t.op.toNat = 2) := by
   obtain ⟨k, hk, h1, h2, _⟩ := Qe4 hgd
   rw [hk, Int.toNat_natCast]
   unfold Jb2
   rw [if_neg oM]
   split <;> simp
  rcases hv with ⟨hle, rfl, hM8⟩ | ⟨hgt, rfl⟩
  rotate_left
  ·have hgt : (fu : Int) < ans.2 := by have : g.fuel = fu := rfl; omega
   rw [if_pos hgt]
   refine zS ?_
   refine Zb (repC rep0) ?_
   refine Zs (b := b8) (cs := repC rep0) rfl h88 lR rfl (by simp [Value.oneCell', repC]) ?_
   intro w9 hu9
   refine zS ?_
   exact ⟨_, bad rfl rfl hu9.blk, rfl, k08.since (hu9.kp [b8] (.inl sI)) (by simpa using hb8)⟩
  have hle : ¬ (fu : Int) < ans.2 := by have : g.fuel = fu := rfl; omega
  rw [if_neg hle]
  have hH8 := hM8.hdr
  have hH8 : Blk w8 mp [ptr og.p, .map (some w5'.heap.size), I ans.2, I fu] 114 := hH8
  have hsort : ∃ o : Int, Jb2 t.op.toNat = o := ⟨_, rfl⟩
  obtain ⟨sort, hsort⟩ := hsort
  refine zS ?_
  refine Ja9 ?_
  refine Jd8 (α := Nat) [8, 10, 13, 14, 16] (fun r => [ptr b8, ptr tp, ptr mp, I ans.1, ptr r]) (fun r W => Blk W r (repC ⟨sort, 0, false, ans.2⟩) 45 ∧ Kp [] w8 W ∧ w8.heap.size ≤ r) ?_ ?_
  ·refine Jo6 (fun w' => Kp [] w8 w') [(0, false), (1, false), (2, false), (3, false), (4, false), (5, false), (6, false), (7, false), (8, false), (9, false), (10, true), (11, true)] Ja0 kR kR kR ((Sm.drew w8).kp []) ?_
   have sd := (Sm.drew w8).kp []
   generalize ({ w8 with drawn := w8.drawn + 1 } : World) = wd at sd ⊢
   have yd := sd.size
   refine zX ?_
   refine Zy (v := I sort) rfl rfl (fun w' h' => by rw [← hsort]; exact (h'.b0 hB8).cell rfl) ?_
   refine zX ?_
   refine Zy rfl rfl (fun w' h' => (h'.b0 hH8).cell rfl) ?_
   refine Zv (repC ⟨sort, 0, false, ans.2⟩) rfl ?_
   refine Jh2 rfl ?_
   refine Za ?_
   intro r w9 hr hu9
   have k9 : Kp [] wd w9 := hu9.new oM
   refine Ja6 ⟨.inr (sd.trans k9), ?_⟩
   refine zX ?_
   refine Jh2 rfl ?_
   refine Zs (b := r) (cs := repC ⟨sort, 0, false, ans.2⟩) rfl hu9.blk lR rfl (by simp [Value.oneCell', repC]) ?_
   intro w10 hu10
   have k10 : Kp [] wd w10 := k9.since (hu10.kp [r] (.inl sI)) (by simp; omega)
   refine Ja6 ⟨.inr (sd.trans k10), ?_⟩
   refine zX ?_
   exact ⟨r, rfl, hu10.blk, sd.trans k10, oM⟩
  rintro r e9 w9 ⟨hr9, k9, hrl⟩
  have hB9 := k9.b0 hB8
  have h89 := k9.b0 h88
  have k09 := k08.trans k9
  have y8 := k08.size
  have hr8 : r ≠ b8 := by have := h88.lt; omega
  refine zS ?_
  refine Jf4 (v := I sort) rfl hB9 (by rw [← hsort]; rfl) rfl rfl rfl rfl ?_
  refine zS ?_
  refine Jd8 (α := Unit) [8, 16] (fun _ => [ptr b8, ptr r]) (fun _ W => Blk W r (repC (if sort = 2 then ⟨2, 0, decide (ans.1 = 1), ans.2⟩ else ⟨sort, ans.1, false, ans.2⟩)) 45 ∧ Kp [r] w9 W) ?_ ?_
  ·refine r_if rfl (fun h2 => ?_) (fun h2 => ?_)
   ·rw [if_pos h2]
    subst h2
    refine zS ?_
    refine Zt (b := r) (off := 2) (v := .bool (decide (ans.1 = 1))) rfl hr9 (by simp [repC]) ?_
    intro w10 hu10
    refine zS ?_
    exact ⟨(), rfl, hu10.blk, hu10.kp _ (.inl sI)⟩
   ·rw [if_neg h2]
    refine zS ?_
    refine Zt (b := r) (off := 1) (v := I ans.1) rfl hr9 (by simp [repC]) ?_
    intro w10 hu10
    refine zS ?_
    exact ⟨(), rfl, hu10.blk, hu10.kp _ (.inl sI)⟩
  rintro _ e10 w10 ⟨hr10, k10⟩
  have h810 := k10.blk (by simpa using hr8.symm) h89
  have k010 := k09.since k10 (by simp; omega)
  rw [hsort]
  have hfin : (if sort = 2 then ((⟨2, 0, decide (ans.1 = 1), ans.2⟩ : Rep), (0 : Int)) else (⟨sort, ans.1, false, ans.2⟩, 0)) = ((if sort = 2 then ⟨2, 0, decide (ans.1 = 1), ans.2⟩ else ⟨sort, ans.1, false, ans.2⟩), 0) := by split <;> rfl
  rw [hfin]
  generalize (if sort = 2 then (⟨2, 0, decide (ans.1 = 1), ans.2⟩ : Rep) else ⟨sort, ans.1, false, ans.2⟩) = rp at hr10 ⊢
  refine zS ?_
  refine Zm (vs := repC rp) rfl hr10.cs ?_
  refine Zs (b := b8) (cs := repC rp) rfl h810 lR rfl (by simp [Value.oneCell', repC]) ?_
  intro w11 hu11
  refine zS ?_
  exact ⟨_, bad rfl rfl hu11.blk, rfl, k010.since (hu11.kp [b8] (.inl sI)) (by simpa using hb8)⟩
end
end Go.Vc
namespace Go.Vc
open Go
def noZ {α : Type} (r : Except (Int × Int) α) : Prop := ∀ c i, r = .error (c, i) → c ≠ 0
theorem Jl6 {α : Type} {a : α} : noZ (.ok a : Except (Int × Int) α) := fun _ _ h => by cases h
theorem Jk0 {α : Type} {c i : Int} (h : c ≠ 0) : noZ (.error (c, i) : Except (Int × Int) α) := fun _ _ e => by cases e; exact h
theorem Jc6 {α β : Type} {x : Except (Int × Int) α} {f : α → Except (Int × Int) β} (h : noZ x) (hf : ∀ a, x = .ok a → noZ (f a)) : noZ (x >>= f) := by
 cases x with
 | error e => intro c i he; obtain ⟨c', i'⟩ := e; cases he; exact h _ _ rfl
 | ok a => exact hf a rfl
theorem Jj8 (s : TS) : noZ (adv s) := by
 unfold adv
 split
 ·exact Jk0 dE
 ·exact Jl6
 ·exact Jl6
theorem Jt0 (s : TS) (w : List UInt8) : noZ (Jc4 s w) := by
 unfold Jc4
 split
 ·exact Jj8 s
 ·exact Jk0 dE
theorem rd_noZ : ∀ n : Nat, (∀ lvl s, lvl ≤ 5 → 10 * s.len + 7 ≤ n + lvl → noZ (rd n lvl s)) ∧ (∀ lvl t s, lvl ≤ 4 → 10 * s.len + 1 ≤ n → noZ (rw n lvl t s)) ∧ (∀ op s, 1 ≤ s.len → 10 * s.len ≤ n → noZ (wd n op s))
 | 0 => ⟨fun _ _ h h2 => oM, fun _ _ _ _ h => oM, fun _ _ h h2 => oM⟩
 | n + 1 => by
  obtain ⟨ih1, ih2, ih3⟩ := rd_noZ n
  have hrow : ∀ lvl s, (lvl = 0 ∨ lvl = 1 ∨ lvl = 3 ∨ lvl = 4) → 10 * s.len + 7 ≤ n + 1 + lvl → noZ (rd (n + 1) lvl s) := by
   intro lvl s hl hn
   have hsub : Ji6 lvl = lvl + 1 := by rcases hl with rfl | rfl | rfl | rfl <;> rfl
   have e : rd (n + 1) lvl s = (rd n (Ji6 lvl) s >>= fun x => rw n lvl x.1 x.2) := by
    rcases hl with rfl | rfl | rfl | rfl <;> rfl
   rw [e]
   refine Jc6 (ih1 _ _ oM (by rw [hsub]; omega)) (fun x hx => ?_)
   have := (Ji1 n).1 _ _ _ _ hx
   have := x.1.size_pos
   exact ih2 _ _ _ oM oM
  refine ⟨fun lvl s hl hn => ?_, fun lvl t s hl hn => ?_, fun op s hs hn => ?_⟩
  ·have h6 : lvl = 0 ∨ lvl = 1 ∨ lvl = 2 ∨ lvl = 3 ∨ lvl = 4 ∨ lvl = 5 := oM
   rcases h6 with rfl | rfl | rfl | rfl | rfl | rfl
   ·exact hrow 0 s sI hn
   ·exact hrow 1 s sI hn
   ·rw [rd2]
    split
    ·rename_i h0
     have h00 := Jo5 h0
     refine Jc6 (Jj8 s) (fun s1 h1 => ?_)
     have := (Jd4 h1).1
     exact Jc6 (ih1 _ _ oM oM) (fun _ _ => Jl6)
    ·refine Jc6 (ih1 _ _ oM oM) (fun x hx => ?_)
     have h1 := (Ji1 n).1 _ _ _ _ hx
     split
     ·rename_i op hop
      have := cmpOp_len hop
      refine Jc6 (Jj8 _) (fun s1 h2 => ?_)
      have := (Jd4 h2).1
      exact Jc6 (ih1 _ _ oM oM) (fun _ _ => Jl6)
     ·exact Jl6
   ·exact hrow 3 s sI hn
   ·exact hrow 4 s sI hn
   ·cases s with
    | stop j => exact Jk0 dE
    | bad j => exact Jk0 dE
    | tok t r =>
     have hl1 : (TS.tok t r).len = r.len + 1 := rfl
     rw [rd5]
     split
     ·exact Jc6 (Jj8 _) (fun _ _ => Jl6)
     ·split
      ·refine Jc6 (Jj8 _) (fun s1 h1 => ?_)
       have := (Jd4 h1).1
       exact Jc6 (ih1 _ _ oM oM) (fun _ _ => Jl6)
      ·split
       ·refine Jc6 (Jj8 _) (fun s1 h1 => ?_)
        have := (Jd4 h1).1
        exact Jc6 (ih1 _ _ oM oM) (fun _ _ => Jc6 (Jt0 _ _) (fun _ _ => Jl6))
       ·split
        ·exact Jc6 (Jj8 _) (fun _ _ => Jl6)
        ·split
         ·exact ih3 _ _ oM oM
         ·split
          ·exact Jc6 (Jj8 _) (fun _ _ => Jl6)
          ·exact Jk0 dE
  ·have e : rw (n + 1) lvl t s = (match Jj6 lvl s with | none => .ok (t, s) | some op => adv s >>= fun s => rd n (Ji6 lvl) s >>= fun x => rw n lvl (.n2 op 0 [] t x.1) x.2) := by
    rw [rw]; rfl
   rw [e]
   split
   ·exact Jl6
   ·rename_i op hop
    have h00 := Qg6 hop
    have hsl : Ji6 lvl ≤ 5 := by unfold Ji6; split <;> omega
    refine Jc6 (Jj8 s) (fun s1 h1 => ?_)
    have := (Jd4 h1).1
    refine Jc6 (ih1 _ _ hsl oM) (fun x hx => ?_)
    have := (Ji1 n).1 _ _ _ _ hx
    have := x.1.size_pos
    exact ih2 _ _ _ hl oM
  ·have e : wd (n + 1) op s = (if op = 3 then (adv s >>= fun s => .ok (.n0 3 0 [], s)) else if Jb6 op then (adv s >>= fun s => match s with
     | .tok t r => if 0 ≤ t.num ∨ Jc5 t.text = false then .error (301, t.at_) else (adv (.tok t r) >>= fun s => Jc4 s [58] >>= fun s => rd n 0 s >>= fun x => .ok (.n1 op 0 t.text x.1, x.2))
     | s => .error (301, s.pos))
    else if Jm0 op then (adv s >>= fun s => Jc4 s [40] >>= fun s => rd n 0 s >>= fun x => if Jc7 op = 1 then (Jc4 x.2 [41] >>= fun s => .ok (.n1 op 0 [] x.1, s)) else (Jc4 x.2 [44] >>= fun s => rd n 0 s >>= fun y => Jc4 y.2 [41] >>= fun s => .ok (.n2 op 0 [] x.1 y.1, s)))
    else .error (301, s.pos)) := by
    rw [wd]; rfl
   rw [e]
   split
   ·exact Jc6 (Jj8 s) (fun _ _ => Jl6)
   ·split
    ·refine Jc6 (Jj8 s) (fun s1 h1 => ?_)
     have := (Jd4 h1).1
     cases s1 with
     | stop j => exact Jk0 dE
     | bad j => exact Jk0 dE
     | tok t r =>
      dsimp only
      split
      ·exact Jk0 dE
      ·refine Jc6 (Jj8 _) (fun s2 h2 => Jc6 (Jt0 _ _) (fun s3 h3 => ?_))
       have := (Jd4 h2).1
       have := Jg6 h3
       exact Jc6 (ih1 _ _ oM oM) (fun _ _ => Jl6)
    ·split
     ·refine Jc6 (Jj8 s) (fun s1 h1 => Jc6 (Jt0 _ _) (fun s2 h2 => ?_))
      have := (Jd4 h1).1
      have := Jg6 h2
      refine Jc6 (ih1 _ _ oM oM) (fun x hx => ?_)
      have := (Ji1 n).1 _ _ _ _ hx
      split
      ·exact Jc6 (Jt0 _ _) (fun _ _ => Jl6)
      ·refine Jc6 (Jt0 _ _) (fun s3 h3 => ?_)
       have := Jg6 h3
       exact Jc6 (ih1 _ _ oM oM) (fun _ _ => Jc6 (Jt0 _ _) (fun _ _ => Jl6))
     ·exact Jk0 dE
theorem parse_err {txt : List UInt8} {c i : Int} (h : Ja4 txt = .error (c, i)) : c ≠ 0 := by
 revert c i
 show noZ (Ja4 txt)
 have hlen := Qg3 (txt := txt) txt.length 0 oM oM
 unfold Ja4
 split
 ·exact Jk0 dE
 ·split
  ·exact Jk0 dE
  ·refine Jc6 ((rd_noZ _).1 0 _ oM oM) (fun x hx => ?_)
   dsimp only
   split
   ·exact Jk0 dE
   ·split
    ·exact Jk0 dE
    ·exact Jl6
end Go.Vc

namespace Go.Vc
open Go Go.Proofs
set_option maxRecDepth 20000
section
variable {w : World}
theorem Jj1 : ∀ t : QT, Jd2 t → ∀ x ∈ t.rows, x.num ≤ 9223372036854775807 ∧ x.name.length ≤ 9223372036854775806
 | .n0 op num name, hg, x, hx => by
  simp [QT.rows] at hx
  subst hx
  rcases hg with ⟨_, h1, h2, rfl⟩ | ⟨_, rfl, h2⟩ | ⟨_, rfl, rfl⟩
  ·exact ⟨h2, sI⟩
  ·unfold Jc5 at h2
   simp only [Bool.and_eq_true, decide_eq_true_eq] at h2
   exact ⟨by show (0 : Int) ≤ _; omega, by have := h2.1.1.1.1.2; show name.length ≤ _; omega⟩
  ·exact ⟨by show (0 : Int) ≤ _; omega, sI⟩
 | .n1 op num name a, hg, x, hx => by
  simp only [QT.rows, List.mem_cons] at hx
  rcases hx with rfl | hx
  ·obtain ⟨rfl, _, ⟨_, rfl⟩ | ⟨_, h2⟩⟩ := hg
   ·exact ⟨by show (0 : Int) ≤ _; omega, sI⟩
   ·unfold Jc5 at h2
    simp only [Bool.and_eq_true, decide_eq_true_eq] at h2
    exact ⟨by show (0 : Int) ≤ _; omega, by have := h2.1.1.1.1.2; show name.length ≤ _; omega⟩
  ·exact Jj1 a hg.2.1 x hx
 | .n2 op num name a b, hg, x, hx => by
  simp only [QT.rows, List.mem_cons, List.mem_append] at hx
  rcases hx with rfl | hx | hx
  ·obtain ⟨rfl, _, _, rfl, _⟩ := hg
   exact ⟨by show (0 : Int) ≤ _; omega, sI⟩
  ·exact Jj1 a hg.2.1 x hx
  ·exact Jj1 b hg.2.2.1 x hx
theorem rows_of {t : QT} {txt : List UInt8} {ad : Option Addr} {cap : Nat} (hp : Ja4 txt = .ok t) (hl : txt.length ≤ 4096) (hO : OwnS w 81 4 ad t.size cap (t.rows.flatMap qC)) : Rows w ad cap t.rows := by
 obtain ⟨h1, h2, h3⟩ := Qb0 hp
 have hc : cap ≤ maxLen := by
  obtain ⟨_, h⟩ := hO
  cases ad with
  | none => obtain ⟨_, h⟩ := h; rw [h]; exact Nat.zero_le _
  | some a => obtain ⟨_, _, _, h, _⟩ := h; exact h
 simp only [maxLen] at hc
 have hcap := hO.le_cap
 exact ⟨hO.readN, by rw [QT.rows_len]; exact hcap, oM, by rw [QT.rows_len]; omega, fun x hx => (Jj1 t h1 x hx).2, fun x hx => (Jj1 t h1 x hx).1⟩
theorem Qh6 {txt : List UInt8} {t : QT} (h : Ja4 txt = .ok t) : txt.length ≤ 4096 := by
 unfold Ja4 at h
 split at h
 ·cases h
 ·omega
noncomputable def Jv0 (txt : List UInt8) (s : Shp) (E : List Ev) (fuel : Int) : Rep × Int × Int :=
 match Ja4 txt with
 | .error (c, i) => (rep0, c, i)
 | .ok t => if (askM t.rows s E fuel).2 = 0 then ((askM t.rows s E fuel).1, 0, 0) else (rep0, (askM t.rows s E fuel).2, 0)
theorem Text_ret {pad ead : Option Addr} {pcap ecap : Nat} {s : Shp} {E : List Ev} {fuel : Int} (hA : AscW w) (txt : List UInt8) (hmax : txt.length ≤ 9223372036854775806) (hpa : Ja7 w pad (s.pa.map I)) (hpl : s.pa.length ≤ 1048576) (he : Ja7 w ead (evsC E)) (hel : E.length ≤ 1048576) :
  Ret Tryz.prog 22 [S txt, .agg ⟨shC s pad pcap⟩, .slice ead E.length ecap, I fuel] w (fun v w' => v = .tuple #[.agg ⟨repC (Jv0 txt s E fuel).1⟩, .agg ⟨[I (Jv0 txt s E fuel).2.1, I (Jv0 txt s E fuel).2.2]⟩] ∧ Kp [] w w') := by
 refine Zd Tryz.call22 Tryz.func22 ?_
 refine zS ?_
 refine Zx ?_
 intro b5 w1 e5 hu1
 have k1 : Kp [] w w1 := hu1.new oM
 refine Za ?_
 intro b8 w2 e8 hu2
 have l1 := hu1.lt
 have k2 : Kp [] w1 w2 := hu2.new oM
 refine Za ?_
 intro b9 w3 e9 hu3
 have l2 := hu2.lt
 have k3 : Kp [] w2 w3 := hu3.new oM
 have h5 : Blk w3 b5 (shC s pad pcap) 27 := (k2.trans k3).b0 hu1.blk
 have h8 : Blk w3 b8 (repC rep0) 45 := k3.b0 hu2.blk
 have h9 : Blk w3 b9 [I 0, I 0] 38 := hu3.blk
 have l3 := h9.lt
 have k03 := (k1.trans k2).trans k3
 have y1 := k1.size
 have y2 := k2.size
 have n8 : w.heap.size ≤ b8 := oM
 have n9 : w.heap.size ≤ b9 := oM
 have h89 : b8 ≠ b9 := oM
 clear hu1 hu2 hu3
 have fin : ∀ {e : Env} {W : World} {r : Rep} {x y : Int}, e 8 = ptr b8 → e 9 = ptr b9 → Blk W b8 (repC r) 45 → Blk W b9 [I x, I y] 38 → resC Tryz.prog e W [.cell 8 45, .cell 9 38] [.agg ⟨repC r⟩, .agg ⟨[I x, I y]⟩] := fun h1 h2 h3 h4 =>
  ⟨⟨_, h1, Jb9 h3 rfl rfl rfl rfl⟩, ⟨_, h2, Jb9 h4 rfl rfl rfl rfl⟩, trivial⟩
 have htm : Jv0 txt s E fuel = match Ja4 txt with
  | .error (c, i) => (rep0, c, i)
  | .ok t => if (askM t.rows s E fuel).2 = 0 then ((askM t.rows s E fuel).1, 0, 0) else (rep0, (askM t.rows s E fuel).2, 0) := rfl
 refine zS ?_
 refine Zc (Jy7 (hA.kp k03 sI) txt hmax) ?_
 rintro v w4 ⟨hv, k4⟩
 have k04 := k03.trans k4
 have y4 := k4.size
 have h54 := k4.b0 h5
 have h84 := k4.b0 h8
 have h94 := k4.b0 h9
 have lay : ∃ vq vf : Value, (∃ ad n cap, vq = qV ad n cap) ∧ (∃ c i : Int, vf = .agg ⟨[I c, I i]⟩ ∧ (match Ja4 txt with | .ok t => c = 0 ∧ i = 0 ∧ ∃ ad cap, vq = qV ad t.size cap ∧ OwnS w4 81 4 ad t.size cap (t.rows.flatMap qC) | .error (c', i') => c = c' ∧ i = i')) ∧ v = .tuple #[vq, vf] := by
  unfold Ql2 at hv
  cases hp : Ja4 txt with
  | error e =>
   obtain ⟨c, i⟩ := e
   rw [hp] at hv
   exact ⟨_, _, ⟨none, 0, 0, rfl⟩, ⟨c, i, rfl, rfl, rfl⟩, hv⟩
  | ok t =>
   rw [hp] at hv
   obtain ⟨ad, cap, hv, hO, _⟩ := hv
   exact ⟨_, _, ⟨ad, _, cap, rfl⟩, ⟨0, 0, rfl, rfl, rfl, ad, cap, rfl, hO⟩, hv⟩
 obtain ⟨_, _, ⟨qad, qn, qcap, rfl⟩, ⟨c, i, rfl, hpm⟩, rfl⟩ := lay
 refine zS ?_
 refine Za ?_
 intro b10 w5 e10 hu5
 refine Za ?_
 intro b11 w6 e11 hu6
 have l5 := hu5.lt
 have n1011 : b10 ≠ b11 := oM
 have k5 : Kp [] w4 w5 := hu5.new oM
 have k6 : Kp [] w4 w6 := k5.trans (hu6.new oM)
 refine Zs (b := b10) (cs := [.slice qad qn qcap]) rfl (hu6.kept n1011 hu5.blk) lR rfl (by simp [Value.oneCell']) ?_
 intro w7 hu7
 refine Zs (b := b11) (cs := [I c, I i]) rfl (hu7.kept n1011.symm hu6.blk) lR rfl (by simp [Value.oneCell']) ?_
 intro w8 hu8
 have y5 := k5.size
 have h10 : Blk w8 b10 [.slice qad qn qcap] 24 := hu8.kept n1011 hu7.blk
 have h11 : Blk w8 b11 [I c, I i] 38 := hu8.blk
 have k48 : Kp [] w4 w8 := (k6.since (hu7.kp [b10] (.inl sI)) (by simp; omega)).since (hu8.kp [b11] (.inl sI)) (by simp; omega)
 have k08 := k04.trans k48
 have h58 := k48.b0 h54
 have h88 := k48.b0 h84
 have h98 := k48.b0 h94
 have m8 := h84.lt
 have m9 := h94.lt
 clear hu5 hu6 hu7 hu8
 refine zL h11 ?_
 cases hp : Ja4 txt with
 | error e =>
  obtain ⟨c', i'⟩ := e
  rw [hp] at hpm htm
  obtain ⟨rfl, rfl⟩ := hpm
  have hc := parse_err hp
  rw [htm]
  refine Jn8 rfl (fun _ => ?_) (fun h => absurd h hc)
  refine zS ?_
  refine Ja9 ?_
  refine Jd8 (α := Unit) [8, 9] (fun _ => [ptr b8, ptr b9]) (fun _ W => Blk W b8 (repC rep0) 45 ∧ Blk W b9 [I c, I i] 38 ∧ Kp [b8, b9] w8 W) ?_ ?_
  ·refine Qj6 (fun w' => Blk w' b11 [I c, I i] 38) 4 Ja0 kR ?_
   have sd := Sm.drew w8
   generalize ({ w8 with drawn := w8.drawn + 1 } : World) = wd at sd ⊢
   have g11 := sd.blk h11
   have g8 := sd.blk h88
   have g9 := sd.blk h98
   have o1 : b11 ≠ b8 := oM
   have o2 : b11 ≠ b9 := oM
   refine Ji9 [0, 1] 2 kR kR kR g11 ?_
   try dsimp only [List.map_cons, List.map_nil]
   refine Zv (repC rep0) rfl ?_
   refine Zz (vs := [I c, I i]) rfl rfl (fun w' h' j v hv => by rw [Nat.zero_add]; exact h'.cell hv) ?_
   refine zX ?_
   refine Je4 2 kR rfl ?_
   refine Zs (b := b8) (cs := repC rep0) rfl g8 lR rfl (by simp [Value.oneCell', repC]) ?_
   intro w9 hu9
   refine Ja6 ⟨.inr (hu9.kept o1 g11), ?_⟩
   refine Je4 3 kR rfl ?_
   refine Zs (b := b9) (cs := [I c, I i]) rfl (hu9.kept h89.symm g9) lR rfl (by simp [Value.oneCell']) ?_
   intro w10 hu10
   refine Ja6 ⟨.inl kR, Qi6 kR ?_⟩
   exact ⟨(), rfl, hu10.kept h89 hu9.blk, hu10.blk, ((sd.kp _).trans (hu9.kp _ (.inl sI))).trans (hu10.kp _ (.inl sI))⟩
  rintro _ e9 w9 ⟨j8, j9, k9⟩
  refine zS ?_
  exact ⟨_, fin rfl rfl j8 j9, rfl, k08.since k9 (by simp; omega)⟩
 | ok t =>
  rw [hp] at hpm htm
  obtain ⟨rfl, rfl, ad, cap, hq, hO⟩ := hpm
  simp only [Value.agg.injEq, Array.mk.injEq, List.cons.injEq, Value.slice.injEq, and_true] at hq
  obtain ⟨rfl, rfl, rfl⟩ := hq
  have hRows := (rows_of hp (Qh6 hp) hO).kp k48 sI
  have hsz : t.size = t.rows.length := (QT.rows_len t).symm
  have htm : Jv0 txt s E fuel = if (askM t.rows s E fuel).2 = 0 then ((askM t.rows s E fuel).1, 0, 0) else (rep0, (askM t.rows s E fuel).2, 0) := htm
  refine r_no rfl sI ?_
  refine zS ?_
  refine Zm (vs := [.slice qad t.size qcap]) rfl h10.cs ?_
  refine Zm (vs := shC s pad pcap) rfl h58.cs ?_
  refine zS ?_
  rw [hsz]
  refine Zc (Ask_ret (hA.kp k08 sI) hRows (hpa.kp k08 sI) hpl (he.kp k08 sI) hel) ?_
  generalize askM t.rows s E fuel = r at htm ⊢
  obtain ⟨rr, re⟩ := r
  dsimp only at htm ⊢
  rintro v w9 ⟨rfl, k9⟩
  have k89 := k9
  have h89' := k9.b0 h88
  have h99 := k9.b0 h98
  have k09 := k08.trans k9
  refine zS ?_
  refine Za ?_
  intro b12 w10 e12 hu10
  have k10 : Kp [] w9 w10 := hu10.new oM
  have l10 := hu10.lt
  have y9 := k9.size
  refine Zs (b := b12) (cs := repC rr) rfl hu10.blk lR rfl (by simp [Value.oneCell', repC]) ?_
  intro w11 hu11
  have k911 : Kp [] w9 w11 := k10.since (hu11.kp [b12] (.inl sI)) (by simp; omega)
  have h12 : Blk w11 b12 (repC rr) 45 := hu11.blk
  have h811 := k911.b0 h89'
  have h911 := k911.b0 h99
  have k011 := k09.trans k911
  clear hu10 hu11
  rw [htm]
  refine zS ?_
  refine Jn8 rfl (fun hne => ?_) (fun heq => ?_)
  ·rw [if_neg hne]
   refine zS ?_
   refine Zb (repC rep0) ?_
   refine zS ?_
   refine Zb [I re, I 0] ?_
   refine Zs (b := b8) (cs := repC rep0) rfl h811 lR rfl (by simp [Value.oneCell', repC]) ?_
   intro w12 hu12
   refine Zs (b := b9) (cs := [I re, I 0]) rfl (hu12.kept h89.symm h911) lR rfl (by simp [Value.oneCell']) ?_
   intro w13 hu13
   refine zS ?_
   exact ⟨_, fin rfl rfl (hu13.kept h89 hu12.blk) hu13.blk, rfl, (k011.since (hu12.kp [b8] (.inl sI)) (by simpa using n8)).since (hu13.kp [b9] (.inl sI)) (by simpa using n9)⟩
  ·rw [if_pos heq]
   refine zS ?_
   refine Zm (vs := repC rr) rfl h12.cs ?_
   refine Zb [I 0, I 0] ?_
   refine Zs (b := b8) (cs := repC rr) rfl h811 lR rfl (by simp [Value.oneCell', repC]) ?_
   intro w12 hu12
   refine Zs (b := b9) (cs := [I 0, I 0]) rfl (hu12.kept h89.symm h911) lR rfl (by simp [Value.oneCell']) ?_
   intro w13 hu13
   refine zS ?_
   exact ⟨_, fin rfl rfl (hu13.kept h89 hu12.blk) hu13.blk, rfl, (k011.since (hu12.kp [b8] (.inl sI)) (by simpa using n8)).since (hu13.kp [b9] (.inl sI)) (by simpa using n9)⟩
end
end Go.Vc
namespace Go.Vc
open Go
set_option maxRecDepth 20000
def txt1 : List UInt8 := [49, 43, 50, 42, 51, 61, 55, 32, 97, 110, 100, 32, 110, 111, 116, 40, 114, 101, 97, 100, 61, 49, 41]
def say1 : List UInt8 := [40, 40, 49, 32, 43, 32, 40, 50, 32, 42, 32, 51, 41, 41, 32, 61, 32, 55, 41, 32, 97, 110, 100, 32, 40, 110, 111, 116, 32, 40, 49, 32, 61, 32, 49, 41, 41]
def txt2 : List UInt8 := [99, 111, 117, 110, 116, 32, 101, 58, 32, 107, 105, 110, 100, 40, 101, 41, 32, 61, 32, 114, 101, 97, 100]
def txt3 : List UInt8 := [49, 32, 43]
def saysB (txt say : List UInt8) : Bool := match Ja4 txt with | .ok t => (match Qk9 t.rows with | .ok s => decide (s = say) | .error _ => false) | .error _ => false
theorem saysB_iff {txt say : List UInt8} (h : saysB txt say = true) : ∃ t, Ja4 txt = .ok t ∧ Qk9 t.rows = .ok say := by
 unfold saysB at h
 split at h
 ·next t ht =>
  split at h
  ·next s hs => exact ⟨t, ht, by rw [hs, of_decide_eq_true h]⟩
  ·cases h
 ·cases h
theorem try1 : saysB txt1 say1 = true := by decide +kernel
def qt2 : QT := .n1 24 0 [101] (.n2 13 0 [] (.n1 9 0 [] (.n0 2 0 [101])) (.n0 1 1 []))
theorem try2 : Ja4 txt2 = .ok qt2 := by rfl
theorem try2' : Jh9 qt2.rows = .ok qt2 := by rfl
theorem try3 : Ja4 txt3 = .error (301, 3) := by rfl
end Go.Vc

