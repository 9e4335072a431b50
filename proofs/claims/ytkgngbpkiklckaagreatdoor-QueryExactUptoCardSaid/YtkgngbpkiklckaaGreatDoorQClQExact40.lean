/- Parts of a proof. -/
import Derived.Test.YtkgngbpkiklckaaGreatDoorQClQExact39
set_option maxHeartbeats 12800000
namespace Go.Vc
open Go Go.Proofs
set_option maxRecDepth 20000
section
variable {w : World}
end
end Go.Vc
namespace Go.Vc
open Go Go.Proofs Go.ChangeShapes
set_option maxRecDepth 10000
section
variable {H : Type} {enc : TypeId × Value → H} {w : World} {base : Nat} {sp : Nat → Bool} {held : Bool} {fuel : Nat} {d : DataW H} {ps : List MemPlace}
end
end Go.Vc

namespace Go.Vc
open Go
variable {P : Program} {n : Nat} {e : Env} {w : World} {K : Jc0} {ro : Ro} {all : List Oper} {Fl : World → Prop}
def slotO (all : List Oper) (i : Nat) : Nat := match nthO all i with
 | some o => match o.dst with
  | some d => d
  | none => 0
 | none => 0
def waitsO (all : List Oper) (i j : Nat) : Bool := match nthO all i with
 | some o => bindsOn o j
 | none => false
def OblD (ro : Ro) (P : Program) (n : Nat) (all : List Oper) (bs : List Nat) (bv : List Value) (Φ : Nat → Value → World → Prop) (w : World) (i : Nat) : Prop :=
 ∃ o, nthO all i = some o ∧ ∀ e' w', Kp [] w w' → bs.map e' = bv → (∀ j, waitsO all i j = true → Φ j (e' (slotO all j)) w') →
  Ops ro P n all [] (fun e'' w'' => Kp [] w' w'' ∧ ∃ v, e'' = put e' o.dst v ∧ Φ i v w'') [o] e' w'
def OblL (ro : Ro) (P : Program) (n : Nat) (all : List Oper) (bs : List Nat) (bv : List Value) (Φ : Nat → Value → World → Prop) (w : World) : List Nat → Prop
 | [] => True
 | i :: r => OblD ro P n all bs bv Φ w i ∧ OblL ro P n all bs bv Φ w r
theorem OblL.mem {bs : List Nat} {bv : List Value} {Φ : Nat → Value → World → Prop} : ∀ {l : List Nat}, OblL ro P n all bs bv Φ w l → ∀ i ∈ l, OblD ro P n all bs bv Φ w i
 | [], _, i, hi => absurd hi sI
 | j :: r, h, i, hi => by
  rcases List.mem_cons.1 hi with rfl | hi
  ·exact h.1
  ·exact h.2.mem i hi
end Go.Vc

namespace Go.Vc
open Go Go.Proofs
set_option maxRecDepth 20000
section
variable {w w' : World}
def TreeA (w : World) (v : Value) (l : List QN) : Prop := ∃ ad cap, v = .agg ⟨[.slice ad l.length cap]⟩ ∧ Rows w ad cap l
theorem TreeA.kp {v : Value} {l : List QN} (h : TreeA w v l) (k : Kp [] w w') : TreeA w' v l := by
 obtain ⟨ad, cap, hv, hR⟩ := h
 exact ⟨ad, cap, hv, hR.kp k sI⟩
def Qi7 (w : World) (v : Value) (ls : List (List QN)) : Prop :=
 ∃ (ks : List KQ) (kad : Option Addr) (kcap : Nat), v = .slice kad ks.length kcap ∧ Ja7 w kad (ks.map kqV) ∧ (∀ k ∈ ks, Rows w k.ad k.cap k.l) ∧ ks.map (·.l) = ls
theorem Qi7.kp {v : Value} {ls : List (List QN)} (h : Qi7 w v ls) (k : Kp [] w w') : Qi7 w' v ls := by
 obtain ⟨ks, kad, kcap, hv, hK, hR, hl⟩ := h
 exact ⟨ks, kad, kcap, hv, hK.kp k sI, fun q hq => (hR q hq).kp k sI, hl⟩
theorem Qi7.nil : Qi7 w (.slice none 0 0) [] := ⟨[], none, 0, rfl, rfl, sI, rfl⟩
theorem Qi7.one {b : Nat} {ad : Option Addr} {cap : Nat} {l : List QN} {t : TypeId} (g : Blk w b [kqV ⟨ad, cap, l⟩] t) (h : Rows w ad cap l) : Qi7 w (.slice (some ⟨b, 0, none⟩) 1 1) [l] :=
 ⟨[⟨ad, cap, l⟩], _, 1, rfl, Ja7.blk g, fun k hk => by rw [List.mem_singleton.1 hk]; exact h, rfl⟩
theorem Qi7.two {b : Nat} {ad ae : Option Addr} {cap cbp : Nat} {l m : List QN} {t : TypeId} (g : Blk w b [kqV ⟨ad, cap, l⟩, kqV ⟨ae, cbp, m⟩] t) (h : Rows w ad cap l) (h2 : Rows w ae cbp m) : Qi7 w (.slice (some ⟨b, 0, none⟩) 2 2) [l, m] :=
 ⟨[⟨ad, cap, l⟩, ⟨ae, cbp, m⟩], _, 2, rfl, Ja7.blk g, fun k hk => by
  rcases List.mem_cons.1 hk with rfl | hk
  ·exact h
  ·rw [List.mem_singleton.1 hk]; exact h2, rfl⟩
theorem Qi7.blk {b : Nat} {ks : List KQ} {t : TypeId} (g : Blk w b (ks.map kqV) t) (h : ∀ k ∈ ks, Rows w k.ad k.cap k.l) : Qi7 w (.slice (some ⟨b, 0, none⟩) ks.length ks.length) (ks.map (·.l)) :=
 ⟨ks, _, _, rfl, Ja7.blk g, h, rfl⟩
def BlkF (n : Nat) (w : World) (v : Value) (cs : List Value) (t : TypeId) : Prop := ∃ b, v = ptr b ∧ Blk w b cs t ∧ n ≤ b
theorem BlkF.kp {n : Nat} {v : Value} {cs : List Value} {t : TypeId} (h : BlkF n w v cs t) (k : Kp [] w w') : BlkF n w' v cs t := by
 obtain ⟨b, hv, hb, hn⟩ := h
 exact ⟨b, hv, k.b0 hb, hn⟩
theorem Rows.apart {ad : Option Addr} {cap : Nat} {l : List QN} {bz : Nat} {a : Option Addr} {n m : Nat} {t : TypeId} (h : Rows w ad cap l) (g : Blk w bz [.slice a n m] t) (hl : 0 < l.length) : ∀ b ∈ Ja1 ad, b ∉ [bz] := by
 obtain ⟨x, hx⟩ : ∃ x, l[0]? = some x := ⟨_, List.getElem?_eq_getElem hl⟩
 obtain ⟨b, off, rfl, _, hc⟩ := h.cellN hx
 intro b' hb' hz
 simp only [Ja1, List.mem_singleton] at hb' hz
 subst hb'
 subst hz
 have h1 := hc 0 (I x.op) rfl
 unfold Blk at g
 simp only [World.cell?, g] at h1
 rcases Nat.eq_zero_or_pos (off + 0 * 4 + 0) with h0 | h0
 ·rw [h0] at h1; simp at h1
 ·obtain ⟨k, hk⟩ : ∃ k, off + 0 * 4 + 0 = k + 1 := ⟨_, (Nat.succ_pred_eq_of_pos h0).symm⟩
  rw [hk] at h1; simp at h1
def Held (w : World) (b : Nat) (l : List QN) : Prop := ∃ ad cap, Blk w b [.slice ad l.length cap] 24 ∧ Rows w ad cap l
theorem Held.kp {b : Nat} {l : List QN} (h : Held w b l) (k : Kp [] w w') : Held w' b l := by
 obtain ⟨ad, cap, g, r⟩ := h
 exact ⟨ad, cap, k.b0 g, r.kp k sI⟩
theorem rows_n1 (op : Int) (name : List UInt8) (q : QT) : (QT.n1 op 0 name q).rows = Ji5 op 0 name q.rows := by
 rw [QT.rows, Ji5, QT.rows_len]
theorem rows_n2 (op : Int) (a b : QT) : (QT.n2 op 0 [] a b).rows = Ji5 op 0 [] (a.rows ++ b.rows) := by
 rw [QT.rows, Ji5, List.length_append, QT.rows_len, QT.rows_len]; norm_cast; rw [Nat.add_assoc]
section
variable (name : List UInt8) (q : QT)
end
end
section
structure RdG where
 p : Nat
 ad : Option Addr
 cap : Nat
 ts : List Tok
 bad : Int
 en : Nat
def RdG.z (g : RdG) : TS := if g.bad < 0 then .stop g.en else .bad g.bad.toNat
def RdG.st (g : RdG) (i : Nat) : TS := tsL g.z (g.ts.drop i)
structure RdA (w : World) (g : RdG) (i : Nat) (c f : Int) : Prop where
 hdr : Blk w g.p [.slice g.ad g.ts.length g.cap, I i, I g.bad, I g.en, I c, I f] 148
 rd : Ja7 w g.ad (g.ts.flatMap tkC)
 le : i ≤ g.ts.length
 len : g.ts.length ≤ 4096
 ne : g.p ∉ Ja1 g.ad
 tx : ∀ t ∈ g.ts, t.text.length ≤ 4096
variable {w w' : World} {g : RdG} {i : Nat} {c f : Int}
theorem RdA.kp0 (h : RdA w g i c f) (hk : Kp [] w w') : RdA w' g i c f := ⟨hk.b0 h.hdr, h.rd.kp hk sI, h.le, h.len, h.ne, h.tx⟩
def TS.isBad : TS → Bool
 | .bad _ => true
 | _ => false
def PreS (g : RdG) (i : Nat) (c f : Int) : Except (Int × Int) TS → Prop
 | .ok s => c = 0 ∧ s = g.st i ∧ s.isBad = false
 | .error (e, q) => (c = e ∧ f = q ∧ c ≠ 0) ∨ (c = 0 ∧ i = g.ts.length ∧ 0 ≤ g.bad ∧ e = 300 ∧ q = g.bad)
def isE (r : Except (Int × Int) TS) (word : List UInt8) : Bool := match r with
 | .ok s => s.is word
 | .error _ => false
def failV : TS → Int × Int
 | .tok t _ => (301, t.at_)
 | .bad i => (300, i)
 | .stop i => (301, i)
theorem Jh8 {t : Tok} (h : g.ts[i]? = some t) : g.st i = .tok t (g.st (i + 1)) := by unfold RdG.st; rw [dropC h]; rfl
theorem Jy0 : g.st g.ts.length = g.z := by unfold RdG.st; rw [List.drop_length]; rfl
theorem Jy1 (h : RdA w g i c f) {t : Tok} (ht : g.ts[i]? = some t) : ∃ b off, g.ad = some ⟨b, off, none⟩ ∧ ∀ w', Kp [] w w' → ∀ j v, (tkC t)[j]? = some v → w'.cell? ⟨b, off + i * 4 + j, none⟩ = some v := by
 have hi := (List.getElem?_eq_some_iff.1 ht).1
 have hfl : (g.ts.flatMap tkC).length = g.ts.length * 4 := by
  generalize g.ts = l
  induction l with
  | nil => rfl
  | cons y r ih => rw [List.flatMap_cons, List.length_append, ih, List.length_cons]; simp [tkC]; omega
 obtain ⟨b, off, he, hbl, hcell⟩ := h.rd.at_ (by rw [hfl]; omega)
 exact ⟨b, off, he, fun w' hk j v hv => by
  rw [Nat.add_assoc, ← hcell _ _ (Jm9 (f := tkC) (m := 4) (fun _ => rfl) ht hv)]
  exact World.cell?_of_block (hk.at_ b hbl sI)⟩
theorem tkI_two (t : Tok) : decide (tkI t = 2) = decide (0 ≤ t.num) := by
 unfold tkI
 rw [decide_eq_decide]
 split
 ·simp [*]
 ·rename_i h
  constructor
  ·intro q; split at q <;> omega
  ·intro q; exact absurd q h
theorem Jk8 (h : RdA w g i c f) {r : Except (Int × Int) TS} (hr : PreS g i c f r) (word : List UInt8) : Ret Tryz.prog 109 [ptr g.p, S word] w (fun v w' => v = .bool (isE r word) ∧ Kp [] w w') := by
 have hle := h.le
 have hln := h.len
 have dead : c ≠ 0 → isE r word = false := fun q => by
  cases r with
  | ok s => exact absurd hr.1 q
  | error x => rfl
 have stop : ¬ i < g.ts.length → isE r word = false := fun q => by
  cases r with
  | ok s =>
   obtain rfl : i = g.ts.length := oM
   rw [hr.2.1]
   show TS.is _ _ = false
   rw [Jy0]
   unfold RdG.z
   split <;> rfl
  | error x => rfl
 refine Ze Tryz.call109 Tryz.func109 ?_
 refine zS ?_
 refine Ja9 ?_
 refine Jc9 Ja0 kR ?_
 refine zN h.hdr ?_
 refine Ji0 _ _ rfl rfl rfl (fun h1 => ?_) (fun h1 => ?_)
 ·have h1 : c = 0 := of_decide_eq_true h1
  refine zN h.hdr ?_
  refine Ji0 _ _ rfl rfl rfl (fun h2 => ?_) (fun h2 => ?_)
  ·have h2 : (i : Int) < g.ts.length := of_decide_eq_true h2
   obtain ⟨t, ht⟩ : ∃ t, g.ts[i]? = some t := ⟨_, List.getElem?_eq_getElem oM⟩
   obtain ⟨b, off, he, hcell⟩ := Jy1 h ht
   have hd := h.hdr
   rw [he] at hd
   rw [he]
   refine zN hd ?_
   refine Zq (v := S t.text) rfl (fun w' h' => by rw [Ja2]; exact hcell w' h' 1 _ rfl) ?_
   refine zN hd ?_
   have hval : isE r word = (decide (t.text = word) && decide (t.num < 0)) := by
    cases r with
    | ok s => rw [hr.2.1]; show TS.is _ _ = _; rw [Jh8 ht]; rfl
    | error x => rcases hr with ⟨_, _, q⟩ | ⟨_, q, _⟩ <;> omega
   rw [hval]
   refine Ji0 _ _ rfl rfl rfl (fun h3 => ?_) (fun h3 => ?_)
   ·have h3 : decide (t.text = word) = true := h3
    rw [h3, Bool.true_and]
    refine zN hd ?_
    refine Zq (v := I (tkI t)) rfl (fun w' h' => by rw [Ja2]; exact hcell w' h' 0 _ rfl) ?_
    refine zN hd ?_
    intro w' hs'
    have hnum : (!decide (tkI t = 2)) = decide (t.num < 0) := by
     rw [tkI_two, ← decide_not, decide_eq_decide]; omega
    refine zS ?_
    exact ⟨_, rfl, by rw [← hnum], hs'⟩
   ·have h3 : decide (t.text = word) = false := h3
    rw [h3, Bool.false_and]
    refine zN hd ?_
    intro w' hs'
    refine zS ?_
    exact ⟨_, rfl, rfl, hs'⟩
  ·have h2 : ¬ (i : Int) < g.ts.length := of_decide_eq_false h2
   rw [stop oM]
   refine zN h.hdr ?_
   intro w' hs'
   refine zS ?_
   exact ⟨_, rfl, rfl, hs'⟩
 ·have h1 : ¬ c = 0 := of_decide_eq_false h1
  rw [dead h1]
  refine zN h.hdr ?_
  intro w' hs'
  refine zS ?_
  exact ⟨_, rfl, rfl, hs'⟩
def Ju1 : Except (Int × Int) TS → Int × Int
 | .ok s => failV s
 | .error x => x
theorem Qf8 (h : RdA w g i c f) {r : Except (Int × Int) TS} (hr : PreS g i c f r) : Ret Tryz.prog 63 [ptr g.p] w (fun v w' => v = .tuple #[] ∧ ∃ c' f', RdA w' g i c' f' ∧ c' ≠ 0 ∧ Ju1 r = (c', f') ∧ Kp [g.p] w w') := by
 have hle := h.le
 have hln := h.len
 have fin : ∀ {w1 w' : World} {c' f' : Int}, Kp [] w w1 → Upd w1 g.p (.cells ⟨[.slice g.ad g.ts.length g.cap, I i, I g.bad, I g.en, I c', I f']⟩ 148 (0, 0)) w' → c' ≠ 0 → Ju1 r = (c', f') → ∃ c' f', RdA w' g i c' f' ∧ c' ≠ 0 ∧ Ju1 r = (c', f') ∧ Kp [g.p] w w' := fun {w1 w' c' f'} hk hu h1 h2 => by
  have k2 : Kp [g.p] w w' := (hk.mono sI).trans (hu.kp [g.p] (.inl sI))
  exact ⟨c', f', ⟨hu.blk, h.rd.kp k2 (fun b hb q => h.ne (by rw [← List.mem_singleton.1 q]; exact hb)), h.le, h.len, h.ne, h.tx⟩, h1, h2, k2⟩
 refine Ze Tryz.call63 Tryz.func63 ?_
 refine zL h.hdr ?_
 refine Jn8 rfl (fun h1 => ?_) (fun h1 => ?_)
 ·refine zS ?_
  refine ⟨_, rfl, rfl, c, f, h, h1, ?_, Kp.refl _ _⟩
  cases r with
  | ok s => exact absurd hr.1 h1
  | error x =>
   obtain ⟨e, q⟩ := x
   rcases hr with ⟨rfl, rfl, _⟩ | ⟨q, _⟩
   ·rfl
   ·exact absurd q h1
 have h1 : c = 0 := h1
 subst h1
 refine zS ?_
 refine Ja9 ?_
 refine Jc9 Ja0 kR ?_
 refine zN h.hdr ?_
 intro w1 k1
 have h := h.kp0 k1
 refine r_if rfl (fun h2 => ?_) (fun h2 => ?_)
 ·obtain ⟨t, ht⟩ : ∃ t, g.ts[i]? = some t := ⟨_, List.getElem?_eq_getElem oM⟩
  obtain ⟨b, off, he, hcell⟩ := Jy1 h ht
  have hd := h.hdr
  rw [he] at hd
  have herr : Ju1 r = ((301 : Int), (t.at_ : Int)) := by
   cases r with
   | ok s => rw [hr.2.1]; show failV _ = _; rw [Jh8 ht]; rfl
   | error x => rcases hr with ⟨_, _, q⟩ | ⟨_, q, _⟩ <;> omega
  refine Je9 Ja0 rfl kR kR ?_
  refine zM hd ?_
  refine Zq (v := I t.at_) rfl (fun w' h' => by rw [Ja2]; exact hcell w' (h'.kp []) 3 _ rfl) ?_
  refine q_build [I 301, I t.at_] rfl rfl rfl rfl rfl rfl rfl ?_
  refine zM hd ?_
  intro w2 hs2
  refine Zs (b := g.p) (cs := [I 301, I t.at_]) rfl (hs2.blk h.hdr) sI rfl (by simp [Value.oneCell']) ?_
  intro w3 hu3
  refine zS ?_
  exact ⟨_, rfl, rfl, fin (k1.trans (hs2.kp [])) hu3 oM herr⟩
 ·have hin : i = g.ts.length := oM
  refine zL h.hdr ?_
  refine r_if rfl (fun h3 => ?_) (fun h3 => ?_)
  ·have herr : Ju1 r = ((300 : Int), g.bad) := by
    cases r with
    | ok s =>
     rw [hr.2.1]; show failV _ = _; rw [hin, Jy0]
     unfold RdG.z
     rw [if_neg oM]
     show ((300 : Int), ((g.bad.toNat : Nat) : Int)) = _
     rw [show ((g.bad.toNat : Nat) : Int) = g.bad by omega]
    | error x =>
     obtain ⟨e, q⟩ := x
     rcases hr with ⟨_, _, q⟩ | ⟨_, _, _, rfl, rfl⟩
     ·exact absurd rfl q
     ·rfl
   refine zL h.hdr ?_
   refine Zb [I 300, I g.bad] ?_
   refine zS ?_
   refine Zs (b := g.p) (cs := [I 300, I g.bad]) rfl h.hdr sI rfl (by simp [Value.oneCell']) ?_
   intro w3 hu3
   refine zS ?_
   exact ⟨_, rfl, rfl, fin k1 hu3 oM herr⟩
  ·have herr : Ju1 r = ((301 : Int), (g.en : Int)) := by
    cases r with
    | ok s =>
     rw [hr.2.1]; show failV _ = _; rw [hin, Jy0]
     unfold RdG.z
     rw [if_pos oM]; rfl
    | error x =>
     rcases hr with ⟨_, _, q⟩ | ⟨_, _, q, _⟩
     ·exact absurd rfl q
     ·omega
   refine zL h.hdr ?_
   refine Zb [I 301, I g.en] ?_
   refine zS ?_
   refine Zs (b := g.p) (cs := [I 301, I g.en]) rfl h.hdr sI rfl (by simp [Value.oneCell']) ?_
   intro w3 hu3
   refine zS ?_
   exact ⟨_, rfl, rfl, fin k1 hu3 oM herr⟩
theorem Jk6 (h : RdA w g i c f) {r : Except (Int × Int) TS} (hr : PreS g i c f r) : Ret Tryz.prog 63 [ptr g.p] w (fun v w' => v = .tuple #[] ∧ ∃ c' f', RdA w' g i c' f' ∧ PreS g i c' f' (.error (Ju1 r)) ∧ Kp [g.p] w w') :=
 (Qf8 h hr).mono fun _ _ ⟨h1, c', f', h2, h3, h4, h5⟩ => ⟨h1, c', f', h2, by rw [h4]; exact .inl ⟨rfl, rfl, h3⟩, h5⟩
theorem Jk5 {f : Int} {t : Tok} (ht : g.ts[i]? = some t) (hc : c = 0) : PreS g (i + 1) c f (adv (g.st i)) := by
 have hi := (List.getElem?_eq_some_iff.1 ht).1
 rw [Jh8 ht]
 cases hz : g.st (i + 1) with
 | stop q => exact ⟨hc, hz.symm, rfl⟩
 | tok u r => exact ⟨hc, hz.symm, rfl⟩
 | bad q =>
  refine .inr ⟨hc, ?_⟩
  have hin : i + 1 = g.ts.length := by
   refine Classical.byContradiction fun hne => ?_
   obtain ⟨u, hu⟩ : ∃ u, g.ts[i + 1]? = some u := ⟨_, List.getElem?_eq_getElem oM⟩
   rw [Jh8 hu] at hz; cases hz
  rw [hin, Jy0] at hz
  unfold RdG.z at hz
  split at hz
  ·cases hz
  ·rename_i hb
   cases hz
   exact ⟨hin, oM, rfl, by show ((g.bad.toNat : Nat) : Int) = g.bad; omega⟩
theorem Qb3 {r : Except (Int × Int) TS} (hr : PreS g i c f r) (hle : i ≤ g.ts.length) {word : List UInt8} (h : isE r word = true) : c = 0 ∧ r = .ok (g.st i) ∧ ∃ t, g.ts[i]? = some t ∧ t.text = word ∧ t.num < 0 := by
 cases r with
 | error x => cases h
 | ok s =>
  obtain ⟨h1, rfl, _⟩ := hr
  refine ⟨h1, rfl, ?_⟩
  have h : (g.st i).is word = true := h
  by_cases hi : i < g.ts.length
  ·obtain ⟨t, ht⟩ : ∃ t, g.ts[i]? = some t := ⟨_, List.getElem?_eq_getElem hi⟩
   rw [Jh8 ht] at h
   have h : (decide (t.text = word) && decide (t.num < 0)) = true := h
   rw [Bool.and_eq_true, decide_eq_true_eq, decide_eq_true_eq] at h
   exact ⟨t, ht, h.1, h.2⟩
  ·exfalso
   rw [show i = g.ts.length by omega, Jy0] at h
   unfold RdG.z at h
   split at h <;> cases h
theorem Ji7 (h : RdA w g i c f) {r : Except (Int × Int) TS} (hr : PreS g i c f r) (word : List UInt8) : Ret Tryz.prog 208 [ptr g.p, S word] w (fun v w' => v = .tuple #[] ∧ ∃ i' c' f', RdA w' g i' c' f' ∧ i ≤ i' ∧ PreS g i' c' f' (r >>= fun s => Jc4 s word) ∧ Kp [g.p] w w') := by
 have hle := h.le
 have hln := h.len
 refine Ze Tryz.call208 Tryz.func208 ?_
 refine zS ?_
 refine Zc (Jk8 h hr word) ?_
 rintro v w1 ⟨rfl, k1⟩
 have h := h.kp0 k1
 cases his : isE r word with
 | false =>
  refine zS ?_
  refine Zc (Jk6 h hr) ?_
  rintro v w2 ⟨rfl, c', f', h2, hp, k2⟩
  refine zS ?_
  refine ⟨_, rfl, rfl, i, c', f', h2, lR, ?_, (k1.mono sI).trans k2⟩
  have : (r >>= fun s => Jc4 s word) = .error (Ju1 r) := by
   cases r with
   | error x => rfl
   | ok s =>
    show Jc4 s word = _
    have his : s.is word = false := his
    unfold Jc4
    rw [if_neg (by rw [his]; simp)]
    have hb := hr.2.2
    cases s with
    | stop q => rfl
    | bad q => cases hb
    | tok u q => rfl
  rw [this]; exact hp
 | true =>
  obtain ⟨rfl, rfl, t, ht, h1, h2⟩ := Qb3 hr hle his
  have hi := (List.getElem?_eq_some_iff.1 ht).1
  refine zL h.hdr ?_
  refine Zt (b := g.p) (off := 1) (v := I ((i : Int) + 1)) rfl h.hdr sI ?_
  intro w2 hu2
  have k2 : Kp [g.p] w1 w2 := hu2.kp [g.p] (.inl sI)
  refine zS ?_
  refine ⟨_, rfl, rfl, i + 1, 0, f, ⟨hu2.blk, h.rd.kp k2 (fun b hb q => h.ne (by rw [← List.mem_singleton.1 q]; exact hb)), oM, h.len, h.ne, h.tx⟩, oM, ?_, (k1.mono sI).trans k2⟩
  show PreS g (i + 1) 0 f (Jc4 (g.st i) word)
  unfold Jc4
  rw [if_pos (show (g.st i).is word = true from his)]
  exact Jk5 ht rfl
end
section
variable {w : World}
theorem OwnS.capm {T : TypeId} {size : Nat} {ad : Option Addr} {n cap : Nat} {xs : List Value} (h : OwnS w T size ad n cap xs) : cap ≤ 9223372036854775807 := by
 obtain ⟨_, h⟩ := h
 cases ad with
 | none => obtain ⟨_, h⟩ := h; omega
 | some a => obtain ⟨_, _, _, h, _⟩ := h; exact h
def Jl4 (w : World) (k : KQ) : Prop := Ja7 w k.ad (k.l.flatMap qC) ∧ k.l.length ≤ k.cap ∧ k.cap ≤ 9223372036854775807
theorem Jl4.kp {w' : World} {S : List Nat} {k : KQ} (h : Jl4 w k) (hk : Kp S w w') (hS : ∀ b, b ∈ Ja1 k.ad → b ∉ S) : Jl4 w' k := ⟨Ja7.kp h.1 hk hS, h.2⟩
theorem Qa4 {ks : List KQ} {kad : Option Addr} {kcap : Nat} (op num : Int) (name : List UInt8) (hK : Ja7 w kad (ks.map kqV)) (hR : ∀ k ∈ ks, Jl4 w k) (hl : (ks.flatMap (·.l)).length ≤ 1000000) (hk : ks.length ≤ 2) :
  Ret Tryz.prog 148 [I op, S name, I num, .slice kad ks.length kcap] w (fun v w' => ∃ k : KQ, v = kqV k ∧ k.l = Ji5 op num name (ks.flatMap (·.l)) ∧ Jl4 w' k ∧ Kp [] w w' ∧ ∀ b, b ∈ Ja1 k.ad → w.heap.size ≤ b) := by
 have htake : ∀ i, ((ks.take i).flatMap (·.l)).length ≤ (ks.flatMap (·.l)).length := fun i => by
  conv => rhs; rw [← List.take_append_drop i ks]
  rw [List.flatMap_append, List.length_append]; omega
 refine Ze Tryz.call148 Tryz.func148 ?_
 refine zS ?_
 refine Zb (qC ⟨op, 0, num, name⟩) ?_
 refine Zn (qC ⟨op, 0, num, name⟩) rfl rfl rfl kR ?_
 intro b w2 hb hu2
 have k2 : Kp [] w w2 := hu2.new oM
 have ho2 : OwnS w2 81 4 (some ⟨b, 0, none⟩) 1 1 (qC ⟨op, 0, num, name⟩) := ⟨rfl, rfl, rfl, lR, by simp [maxLen], [], by rw [List.append_nil]; exact hu2.blk, rfl⟩
 clear hu2
 refine zS ?_
 refine Jb4 (α := Nat × Option Addr × Nat) [3, 9, 10] (fun y => [.slice kad ks.length kcap, .slice y.2.1 (1 + ((ks.take y.1).flatMap (·.l)).length) y.2.2, I y.1]) (fun y W => y.1 ≤ ks.length ∧ OwnS W 81 4 y.2.1 (1 + ((ks.take y.1).flatMap (·.l)).length) y.2.2 (((⟨op, 0, num, name⟩ : QN) :: (ks.take y.1).flatMap (·.l)).flatMap qC) ∧ Kp [] w W ∧ ∀ c, c ∈ Ja1 y.2.1 → w.heap.size ≤ c) (fun y => ks.length - y.1) (0, some ⟨b, 0, none⟩, 1) rfl ⟨Nat.zero_le _, by simpa using ho2, k2, fun c hc => by simp [Ja1] at hc; omega⟩ ?_
 rintro ⟨i, iad, icap⟩ e W ⟨hi, ho, kW, hnew⟩
 dsimp only at hi ho hnew ⊢
 have hti := htake i
 refine zS ?_
 refine r_if rfl (fun hc => ?_) (fun hc => ?_)
 ·have hi2 : i < ks.length := oM
  obtain ⟨k, hkx⟩ : ∃ k, ks[i]? = some k := ⟨_, List.getElem?_eq_getElem hi2⟩
  have ht1 : ks.take (i + 1) = ks.take i ++ [k] := by rw [List.take_add_one, hkx]; rfl
  have hti1 := htake (i + 1)
  rw [ht1, List.flatMap_append, List.length_append] at hti1
  have hfk : ([k].flatMap (·.l)) = k.l := sI
  rw [hfk] at hti1
  obtain ⟨kb, koff, rfl, _, hcell⟩ := (hK.kp kW sI).at_ (by simp; omega)
  have hkl := Jf5 k.l
  refine zS ?_
  refine Zo (v := kqV k) rfl (by rw [Ja2]; exact hcell i _ (by rw [List.getElem?_map, hkx]; rfl)) ?_
  refine Jg7 (k := 1 + ((ks.take i).flatMap (·.l)).length) (m := k.l.length) (k.l.flatMap qC) rfl rfl ho ((hR k (List.mem_of_getElem? hkx)).1.kp kW sI) rfl rfl rfl dE hkl Qm5 (by simp only [maxLen]; omega) oM rfl rfl ?_
  intro ad6 cap6 w6 ho6 k6 hn6
  have hsz := kW.size
  refine zS ?_
  have hcount : 1 + ((ks.take (i + 1)).flatMap (·.l)).length = 1 + ((ks.take i).flatMap (·.l)).length + k.l.length := by
   rw [ht1, List.flatMap_append, List.length_append, hfk]; omega
  have hlist : ((⟨op, 0, num, name⟩ : QN) :: (ks.take (i + 1)).flatMap (·.l)).flatMap qC = ((⟨op, 0, num, name⟩ : QN) :: (ks.take i).flatMap (·.l)).flatMap qC ++ k.l.flatMap qC := by
   rw [ht1, List.flatMap_append, hfk, List.flatMap_cons, List.flatMap_cons, List.flatMap_append, List.append_assoc]
  refine ⟨(i + 1, ad6, cap6), by dsimp only; rw [hcount]; rfl, ⟨by dsimp only; omega, by dsimp only; rw [hcount, hlist]; exact ho6, kW.since k6 hnew, fun c hc => ?_⟩, by dsimp only; omega⟩
  ·rcases hn6 c hc with h | h
   ·exact hnew c h
   ·omega
 ·obtain rfl : i = ks.length := oM
  rw [List.take_length] at ho hti ⊢
  generalize hLr : ks.flatMap (·.l) = Lr at ho hti hl ⊢
  have hlen : ((⟨op, 0, num, name⟩ : QN) :: Lr).length = 1 + Lr.length := by rw [List.length_cons, Nat.add_comm]
  rw [← hlen] at ho ⊢
  obtain ⟨bo, L, rfl, hL, hLl, hcell, hset⟩ := ho.rec (f := qC) (m := 4) Qh5 oM (i := 0) sI
  have hbo := hnew bo (by simp [Ja1])
  refine zS ?_
  refine Zt (b := bo) (off := 1) (v := I ((⟨op, 0, num, name⟩ : QN) :: Lr).length) (by rfl) hL oM ?_
  intro w7 hu7
  have k7 : Kp [bo] W w7 := hu7.kp [bo] (.inl sI)
  have ho7 := hset ⟨op, 1 + Lr.length, num, name⟩ w7 (by
   have e2 : Jg0 L (0 * 4) (qC ⟨op, 1 + Lr.length, num, name⟩) = L.set (0 * 4 + 1) (I (1 + Lr.length : Nat)) := Jj4 L (cs := qC ⟨op, 0, num, name⟩) (j := 1) (v := I (1 + Lr.length : Nat)) (fun j' v' h => hcell ⟨op, 0, num, name⟩ rfl j' v' h) (by rw [Qh5]; omega) (by rw [Qh5]; omega)
   rw [e2, ← hlen]; exact hu7)
  have hrd : Ja7 w7 (some ⟨bo, 0, none⟩) ((Ji5 op num name Lr).flatMap qC) := ho7.readN
  refine zS ?_
  exact ⟨_, rfl, ⟨some ⟨bo, 0, none⟩, icap, Ji5 op num name Lr⟩, rfl, rfl, ⟨hrd, by have := ho7.le_cap; show Lr.length + 1 ≤ icap; omega, ho7.capm⟩, kW.since k7 (by simpa using hbo), fun c hc => by simp [Ja1] at hc; omega⟩
theorem Jk2 {a b : KQ} (op : Int) (ha : Jl4 w a) (hb : Jl4 w b) (hl : a.l.length + b.l.length ≤ 1000000) :
  Ret Tryz.prog 110 [I op, kqV a, kqV b] w (fun v w' => ∃ k : KQ, v = kqV k ∧ k.l = Ji5 op 0 [] (a.l ++ b.l) ∧ Jl4 w' k ∧ Kp [] w w' ∧ ∀ c, c ∈ Ja1 k.ad → w.heap.size ≤ c) := by
 refine Ze Tryz.call110 Tryz.func110 ?_
 refine zS ?_
 refine Zn [kqV a, kqV b] rfl rfl rfl kR ?_
 intro bs w1 hbs hu1
 have k1 : Kp [] w w1 := hu1.new oM
 refine o_call (Qa4 (ks := [a, b]) op 0 [] (Ja7.blk hu1.blk) (fun k hk => by
  rcases List.mem_cons.1 hk with rfl | hk
  ·exact ha.kp k1 sI
  ·rw [List.mem_singleton.1 hk]; exact hb.kp k1 sI) (by simpa using hl) sI) rfl rfl rfl ?_
 rintro v w2 ⟨k, rfl, hk, hr, k2, hn⟩
 have := k1.size
 refine zS ?_
 exact ⟨_, rfl, k, rfl, by rw [hk]; simp, hr, k1.trans k2, fun c hc => by have := hn c hc; omega⟩
theorem Jh6 {a : KQ} (op : Int) (name : List UInt8) (ha : Jl4 w a) (hl : a.l.length ≤ 1000000) :
  Ret Tryz.prog 177 [I op, S name, kqV a] w (fun v w' => ∃ k : KQ, v = kqV k ∧ k.l = Ji5 op 0 name a.l ∧ Jl4 w' k ∧ Kp [] w w' ∧ ∀ c, c ∈ Ja1 k.ad → w.heap.size ≤ c) := by
 refine Ze Tryz.call177 Tryz.func177 ?_
 refine zS ?_
 refine Zn [kqV a] rfl rfl rfl kR ?_
 intro bs w1 hbs hu1
 have k1 : Kp [] w w1 := hu1.new oM
 refine Zc (Qa4 (ks := [a]) op 0 name (Ja7.blk hu1.blk) (fun k hk => by rw [List.mem_singleton.1 hk]; exact ha.kp k1 sI) (by simpa using hl) sI) ?_
 rintro v w2 ⟨k, rfl, hk, hr, k2, hn⟩
 have := k1.size
 refine zS ?_
 exact ⟨_, rfl, k, rfl, by rw [hk]; simp, hr, k1.trans k2, fun c hc => by have := hn c hc; omega⟩
def Rel (g : RdG) (r : PR) (i : Nat) (c f : Int) (l : List QN) : Prop := match r with
 | .ok (t, s) => PreS g i c f (.ok s) ∧ l = t.rows
 | .error x => PreS g i c f (.error x)
def Ju2 (r : PR) : Except (Int × Int) TS := r >>= fun y => .ok y.2
theorem Rel.pre {g : RdG} {r : PR} {i : Nat} {c f : Int} {l : List QN} (h : Rel g r i c f l) : PreS g i c f (Ju2 r) := by
 cases r with
 | ok y => exact h.1
 | error x => exact h
def Rd30 (n lvl : Nat) (fn : FuncId) : Prop := ∀ {w : World} {g : RdG} {i : Nat} {c fa : Int} {r : Except (Int × Int) TS}, RdA w g i c fa → PreS g i c fa r → 10 * (g.ts.length - i) + 7 ≤ n + lvl →
 Ret Tryz.prog fn [ptr g.p] w (fun v w' => ∃ (k : KQ) (i' : Nat) (c' fa' : Int), v = kqV k ∧ Jl4 w' k ∧ (∀ b, b ∈ Ja1 k.ad → w.heap.size ≤ b) ∧ RdA w' g i' c' fa' ∧ i ≤ i' ∧ k.l.length ≤ i' - i ∧ Rel g (r >>= rd n lvl) i' c' fa' k.l ∧ Kp [g.p] w w')
theorem Jl9 {w w' : World} {g : RdG} {i : Nat} {f : Int} (h : RdA w g i 0 f) (hi : i < g.ts.length) (hu : Upd w g.p (.cells ⟨[.slice g.ad g.ts.length g.cap, I ((i : Int) + 1), I g.bad, I g.en, I 0, I f]⟩ 148 (0, 0)) w') : RdA w' g (i + 1) 0 f ∧ Kp [g.p] w w' := by
 have k2 : Kp [g.p] w w' := hu.kp [g.p] (.inl sI)
 exact ⟨⟨hu.blk, h.rd.kp k2 (fun b hb q => h.ne (by rw [← List.mem_singleton.1 q]; exact hb)), oM, h.len, h.ne, h.tx⟩, k2⟩
theorem Qo2 {g : RdG} {x : PR} {i : Nat} {c f op : Int} {t : QT} {la lb l : List QN} (h : Rel g x i c f lb) (hl : l = Ji5 op 0 [] (la ++ lb)) (ha : la = t.rows) : Rel g (x >>= fun y => .ok (.n2 op 0 [] t y.1, y.2)) i c f l := by
 cases x with
 | error e => exact h
 | ok y => exact ⟨h.1, by rw [hl, rows_n2, h.2, ha]⟩
theorem Jw8 {g : RdG} {t : QT} {s : TS} {i : Nat} {c f : Int} {l : List QN} (h : Rel g (.ok (t, s)) i c f l) : 1 ≤ l.length := by
 rw [h.2, QT.rows_len]; exact t.size_pos
theorem question30_ok {m : Nat} (ih : ∀ m', m' ≤ m → Rd30 m' 1 108) : Rd30 (m + 1) 0 62 := by
 intro w g i c fa r h hr hn
 have hle := h.le
 have hln := h.len
 have hrd : (r >>= rd (m + 1) 0) = (r >>= rd m 1) >>= fun y => rw m 0 y.1 y.2 := by
  cases r with
  | error x => rfl
  | ok s => exact rd_row (lvl := 0) dE
 refine Ze Tryz.call62 Tryz.func62 ?_
 refine zS ?_
 refine Zc (ih m lR h hr oM) ?_
 rintro v w1 ⟨k1, i1, c1, f1, rfl, hk1, hn1, h1, hi1, hl1, hR1, kk1⟩
 rw [hrd]
 have hp := h.hdr.lt
 refine zS ?_
 refine Jb4 (α := KQ × Nat × Int × Int × Nat × PR) [0, 3] (fun y => [ptr g.p, kqV y.1]) (fun y W => RdA W g y.2.1 y.2.2.1 y.2.2.2.1 ∧ Jl4 W y.1 ∧ (∀ b, b ∈ Ja1 y.1.ad → w.heap.size ≤ b) ∧ i ≤ y.2.1 ∧ y.1.l.length ≤ y.2.1 - i ∧ Rel g y.2.2.2.2.2 y.2.1 y.2.2.1 y.2.2.2.1 y.1.l ∧ Kp [g.p] w W ∧ y.2.2.2.2.1 ≤ m ∧ ((r >>= rd m 1) >>= fun y => rw m 0 y.1 y.2) = (y.2.2.2.2.2 >>= fun z => rw y.2.2.2.2.1 0 z.1 z.2) ∧ ∀ z, y.2.2.2.2.2 = .ok z → 10 * (g.ts.length - y.2.1) + 16 ≤ y.2.2.2.2.1 + 0) (fun y => g.ts.length - y.2.1) (k1, i1, c1, f1, m, r >>= rd m 1) rfl ⟨h1, hk1, hn1, hi1, hl1, hR1, kk1, lR, rfl, fun z hz => by
  dsimp only at hz
  rw [hz] at hR1
  have := Jw8 (s := z.2) (t := z.1) hR1
  have := h1.le
  dsimp only; omega⟩ ?_
 clear hR1 hk1 hn1 h1 hi1 hl1 kk1
 rintro ⟨k1, i1, c1, f1, mm, x⟩ e W ⟨h1, hk1, hn1, hi1, hl1, hR1, kk1, hmm, heq, hfu⟩
 dsimp only at h1 hk1 hn1 hi1 hl1 hR1 kk1 hmm heq hfu ⊢
 have hle1 := h1.le
 rw [heq]
 refine zS ?_
 refine Zc (Jk8 h1 hR1.pre [111, 114]) ?_
 rintro v w2 ⟨rfl, k2⟩
 cases his : isE (Ju2 x) [111, 114] with
 | true =>
  obtain ⟨rfl, hx, tk, htk, _, _⟩ := Qb3 hR1.pre hle1 his
  obtain ⟨⟨t, s⟩, rfl⟩ : ∃ z, x = .ok z := by
   cases x with
   | error q => cases his
   | ok z => exact ⟨z, rfl⟩
  have hs : s = g.st i1 := Except.ok.inj hx
  subst hs
  have hfu := hfu _ rfl
  have hi := (List.getElem?_eq_some_iff.1 htk).1
  obtain ⟨mm, rfl⟩ : ∃ q, mm = q + 1 := ⟨mm - 1, oM⟩
  have hrow : Jj6 0 (g.st i1) = some 19 := by
   have his : (g.st i1).is [111, 114] = true := his
   show (if (g.st i1).is [111, 114] = true then some (19 : Int) else none) = some 19
   rw [if_pos his]
  have h2 := h1.kp0 k2
  refine zL h2.hdr ?_
  refine Zt (b := g.p) (off := 1) (v := I ((i1 : Int) + 1)) rfl h2.hdr sI ?_
  intro w3 hu3
  obtain ⟨h3, k3⟩ := Jl9 h2 hi hu3
  clear hu3
  refine zS ?_
  refine Zc (ih mm oM h3 (Jk5 htk rfl) oM) ?_
  rintro v w4 ⟨k4, i4, c4, f4, rfl, hk4, hn4, h4, hi4, hl4, hR4, kk4⟩
  have hle4 := h4.le
  have y2 := k2.size
  have y3 := k3.size
  have y1 := kk1.size
  have hk14 : Jl4 w4 k1 := ((hk1.kp k2 sI).kp k3 (fun b hb q => by have := hn1 b hb; have := List.mem_singleton.1 q; omega)).kp kk4 (fun b hb q => by have := hn1 b hb; have := List.mem_singleton.1 q; omega)
  refine Zc (Jk2 19 hk14 hk4 oM) ?_
  rintro v w5 ⟨k5, rfl, hl5, hk5, kk5, hn5⟩
  have y4 := kk4.size
  have hlen5 : k5.l.length = 1 + (k1.l.length + k4.l.length) := by rw [hl5]; simp [Ji5]; omega
  refine zS ?_
  refine ⟨(k5, i4, c4, f4, mm, (adv (g.st i1) >>= rd mm 1) >>= fun y => .ok (.n2 19 0 [] t y.1, y.2)), rfl, ⟨h4.kp0 kk5, hk5, fun b hb => by have := hn5 b hb; omega, by dsimp only; omega, by dsimp only; omega, Qo2 hR4 hl5 hR1.2, (((kk1.into k2 sI).trans k3).trans kk4).into kk5 sI, by dsimp only; omega, ?_, fun z hz => ?_⟩, by dsimp only; omega⟩
  ·show rw (mm + 1) 0 t (g.st i1) = _
   rw [Qg7 hrow]
   cases adv (g.st i1) with
   | error q => rfl
   | ok s' =>
    show (rd mm 1 s' >>= _) = ((rd mm 1 s' >>= _) >>= _)
    cases rd mm 1 s' <;> rfl
  ·dsimp only at hz ⊢
   cases hq : (adv (g.st i1) >>= rd mm 1) with
   | error q => rw [hq] at hz; cases hz
   | ok u =>
    rw [hq] at hR4
    have := Jw8 (s := u.2) (t := u.1) hR4
    omega
 | false =>
  refine zS ?_
  refine ⟨_, rfl, k1, i1, c1, f1, rfl, hk1.kp k2 sI, hn1, h1.kp0 k2, hi1, hl1, ?_, kk1.into k2 sI⟩
  cases x with
  | error q => exact hR1
  | ok z =>
   obtain ⟨t, s⟩ := z
   have hfu := hfu _ rfl
   obtain ⟨mm, rfl⟩ : ∃ q, mm = q + 1 := ⟨mm - 1, oM⟩
   have his : s.is [111, 114] = false := his
   have hrow : Jj6 0 s = none := by
    show (if s.is [111, 114] = true then some (19 : Int) else none) = none
    rw [if_neg (by rw [his]; simp)]
   show Rel g (rw (mm + 1) 0 t s) _ _ _ _
   rw [Jz4 hrow]; exact hR1
theorem Qc2 {m : Nat} (ih : ∀ m', m' ≤ m → Rd30 m' 2 147) : Rd30 (m + 1) 1 108 := by
 intro w g i c fa r h hr hn
 have hle := h.le
 have hln := h.len
 have hrd : (r >>= rd (m + 1) 1) = (r >>= rd m 2) >>= fun y => rw m 1 y.1 y.2 := by
  cases r with
  | error x => rfl
  | ok s => exact rd_row (lvl := 1) dE
 refine Ze Tryz.call108 Tryz.func108 ?_
 refine zS ?_
 refine Zc (ih m lR h hr oM) ?_
 rintro v w1 ⟨k1, i1, c1, f1, rfl, hk1, hn1, h1, hi1, hl1, hR1, kk1⟩
 rw [hrd]
 have hp := h.hdr.lt
 refine zS ?_
 refine Jb4 (α := KQ × Nat × Int × Int × Nat × PR) [0, 3] (fun y => [ptr g.p, kqV y.1]) (fun y W => RdA W g y.2.1 y.2.2.1 y.2.2.2.1 ∧ Jl4 W y.1 ∧ (∀ b, b ∈ Ja1 y.1.ad → w.heap.size ≤ b) ∧ i ≤ y.2.1 ∧ y.1.l.length ≤ y.2.1 - i ∧ Rel g y.2.2.2.2.2 y.2.1 y.2.2.1 y.2.2.2.1 y.1.l ∧ Kp [g.p] w W ∧ y.2.2.2.2.1 ≤ m ∧ ((r >>= rd m 2) >>= fun y => rw m 1 y.1 y.2) = (y.2.2.2.2.2 >>= fun z => rw y.2.2.2.2.1 1 z.1 z.2) ∧ ∀ z, y.2.2.2.2.2 = .ok z → 10 * (g.ts.length - y.2.1) + 16 ≤ y.2.2.2.2.1 + 1) (fun y => g.ts.length - y.2.1) (k1, i1, c1, f1, m, r >>= rd m 2) rfl ⟨h1, hk1, hn1, hi1, hl1, hR1, kk1, lR, rfl, fun z hz => by
  dsimp only at hz
  rw [hz] at hR1
  have := Jw8 (s := z.2) (t := z.1) hR1
  have := h1.le
  dsimp only; omega⟩ ?_
 clear hR1 hk1 hn1 h1 hi1 hl1 kk1
 rintro ⟨k1, i1, c1, f1, mm, x⟩ e W ⟨h1, hk1, hn1, hi1, hl1, hR1, kk1, hmm, heq, hfu⟩
 dsimp only at h1 hk1 hn1 hi1 hl1 hR1 kk1 hmm heq hfu ⊢
 have hle1 := h1.le
 rw [heq]
 refine zS ?_
 refine Zc (Jk8 h1 hR1.pre [97, 110, 100]) ?_
 rintro v w2 ⟨rfl, k2⟩
 cases his : isE (Ju2 x) [97, 110, 100] with
 | true =>
  obtain ⟨rfl, hx, tk, htk, _, _⟩ := Qb3 hR1.pre hle1 his
  obtain ⟨⟨t, s⟩, rfl⟩ : ∃ z, x = .ok z := by
   cases x with
   | error q => cases his
   | ok z => exact ⟨z, rfl⟩
  have hs : s = g.st i1 := Except.ok.inj hx
  subst hs
  have hfu := hfu _ rfl
  have hi := (List.getElem?_eq_some_iff.1 htk).1
  obtain ⟨mm, rfl⟩ : ∃ q, mm = q + 1 := ⟨mm - 1, oM⟩
  have hrow : Jj6 1 (g.st i1) = some 18 := by
   have his : (g.st i1).is [97, 110, 100] = true := his
   show (if (g.st i1).is [97, 110, 100] = true then some (18 : Int) else none) = some 18
   rw [if_pos his]
  have h2 := h1.kp0 k2
  refine zL h2.hdr ?_
  refine Zt (b := g.p) (off := 1) (v := I ((i1 : Int) + 1)) rfl h2.hdr sI ?_
  intro w3 hu3
  obtain ⟨h3, k3⟩ := Jl9 h2 hi hu3
  clear hu3
  refine zS ?_
  refine Zc (ih mm oM h3 (Jk5 htk rfl) oM) ?_
  rintro v w4 ⟨k4, i4, c4, f4, rfl, hk4, hn4, h4, hi4, hl4, hR4, kk4⟩
  have hle4 := h4.le
  have y2 := k2.size
  have y3 := k3.size
  have y1 := kk1.size
  have hk14 : Jl4 w4 k1 := ((hk1.kp k2 sI).kp k3 (fun b hb q => by have := hn1 b hb; have := List.mem_singleton.1 q; omega)).kp kk4 (fun b hb q => by have := hn1 b hb; have := List.mem_singleton.1 q; omega)
  refine Zc (Jk2 18 hk14 hk4 oM) ?_
  rintro v w5 ⟨k5, rfl, hl5, hk5, kk5, hn5⟩
  have y4 := kk4.size
  have hlen5 : k5.l.length = 1 + (k1.l.length + k4.l.length) := by rw [hl5]; simp [Ji5]; omega
  refine zS ?_
  refine ⟨(k5, i4, c4, f4, mm, (adv (g.st i1) >>= rd mm 2) >>= fun y => .ok (.n2 18 0 [] t y.1, y.2)), rfl, ⟨h4.kp0 kk5, hk5, fun b hb => by have := hn5 b hb; omega, by dsimp only; omega, by dsimp only; omega, Qo2 hR4 hl5 hR1.2, (((kk1.into k2 sI).trans k3).trans kk4).into kk5 sI, by dsimp only; omega, ?_, fun z hz => ?_⟩, by dsimp only; omega⟩
  ·show rw (mm + 1) 1 t (g.st i1) = _
   rw [Qg7 hrow]
   cases adv (g.st i1) with
   | error q => rfl
   | ok s' =>
    show (rd mm 2 s' >>= _) = ((rd mm 2 s' >>= _) >>= _)
    cases rd mm 2 s' <;> rfl
  ·dsimp only at hz ⊢
   cases hq : (adv (g.st i1) >>= rd mm 2) with
   | error q => rw [hq] at hz; cases hz
   | ok u =>
    rw [hq] at hR4
    have := Jw8 (s := u.2) (t := u.1) hR4
    omega
 | false =>
  refine zS ?_
  refine ⟨_, rfl, k1, i1, c1, f1, rfl, hk1.kp k2 sI, hn1, h1.kp0 k2, hi1, hl1, ?_, kk1.into k2 sI⟩
  cases x with
  | error q => exact hR1
  | ok z =>
   obtain ⟨t, s⟩ := z
   have hfu := hfu _ rfl
   obtain ⟨mm, rfl⟩ : ∃ q, mm = q + 1 := ⟨mm - 1, oM⟩
   have his : s.is [97, 110, 100] = false := his
   have hrow : Jj6 1 s = none := by
    show (if s.is [97, 110, 100] = true then some (18 : Int) else none) = none
    rw [if_neg (by rw [his]; simp)]
   show Rel g (rw (mm + 1) 1 t s) _ _ _ _
   rw [Jz4 hrow]; exact hR1
theorem term30_ok {m : Nat} (ih : ∀ m', m' ≤ m → Rd30 m' 5 202) : Rd30 (m + 1) 4 191 := by
 intro w g i c fa r h hr hn
 have hle := h.le
 have hln := h.len
 have hrd : (r >>= rd (m + 1) 4) = (r >>= rd m 5) >>= fun y => rw m 4 y.1 y.2 := by
  cases r with
  | error x => rfl
  | ok s => exact rd_row (lvl := 4) dE
 refine Ze Tryz.call191 Tryz.func191 ?_
 refine zS ?_
 refine Zc (ih m lR h hr oM) ?_
 rintro v w1 ⟨k1, i1, c1, f1, rfl, hk1, hn1, h1, hi1, hl1, hR1, kk1⟩
 rw [hrd]
 have hp := h.hdr.lt
 refine zS ?_
 refine Jb4 (α := KQ × Nat × Int × Int × Nat × PR) [0, 3] (fun y => [ptr g.p, kqV y.1]) (fun y W => RdA W g y.2.1 y.2.2.1 y.2.2.2.1 ∧ Jl4 W y.1 ∧ (∀ b, b ∈ Ja1 y.1.ad → w.heap.size ≤ b) ∧ i ≤ y.2.1 ∧ y.1.l.length ≤ y.2.1 - i ∧ Rel g y.2.2.2.2.2 y.2.1 y.2.2.1 y.2.2.2.1 y.1.l ∧ Kp [g.p] w W ∧ y.2.2.2.2.1 ≤ m ∧ ((r >>= rd m 5) >>= fun y => rw m 4 y.1 y.2) = (y.2.2.2.2.2 >>= fun z => rw y.2.2.2.2.1 4 z.1 z.2) ∧ ∀ z, y.2.2.2.2.2 = .ok z → 10 * (g.ts.length - y.2.1) + 16 ≤ y.2.2.2.2.1 + 4) (fun y => g.ts.length - y.2.1) (k1, i1, c1, f1, m, r >>= rd m 5) rfl ⟨h1, hk1, hn1, hi1, hl1, hR1, kk1, lR, rfl, fun z hz => by
  dsimp only at hz
  rw [hz] at hR1
  have := Jw8 (s := z.2) (t := z.1) hR1
  have := h1.le
  dsimp only; omega⟩ ?_
 clear hR1 hk1 hn1 h1 hi1 hl1 kk1
 rintro ⟨k1, i1, c1, f1, mm, x⟩ e W ⟨h1, hk1, hn1, hi1, hl1, hR1, kk1, hmm, heq, hfu⟩
 dsimp only at h1 hk1 hn1 hi1 hl1 hR1 kk1 hmm heq hfu ⊢
 have hle1 := h1.le
 rw [heq]
 refine zS ?_
 refine Zc (Jk8 h1 hR1.pre [42]) ?_
 rintro v w2 ⟨rfl, k2⟩
 cases his : isE (Ju2 x) [42] with
 | true =>
  obtain ⟨rfl, hx, tk, htk, _, _⟩ := Qb3 hR1.pre hle1 his
  obtain ⟨⟨t, s⟩, rfl⟩ : ∃ z, x = .ok z := by
   cases x with
   | error q => cases his
   | ok z => exact ⟨z, rfl⟩
  have hs : s = g.st i1 := Except.ok.inj hx
  subst hs
  have hfu := hfu _ rfl
  have hi := (List.getElem?_eq_some_iff.1 htk).1
  obtain ⟨mm, rfl⟩ : ∃ q, mm = q + 1 := ⟨mm - 1, oM⟩
  have hrow : Jj6 4 (g.st i1) = some 7 := by
   have his : (g.st i1).is [42] = true := his
   show (if (g.st i1).is [42] = true then some (7 : Int) else none) = some 7
   rw [if_pos his]
  have h2 := h1.kp0 k2
  refine zL h2.hdr ?_
  refine Zt (b := g.p) (off := 1) (v := I ((i1 : Int) + 1)) rfl h2.hdr sI ?_
  intro w3 hu3
  obtain ⟨h3, k3⟩ := Jl9 h2 hi hu3
  clear hu3
  refine zS ?_
  refine Zc (ih mm oM h3 (Jk5 htk rfl) oM) ?_
  rintro v w4 ⟨k4, i4, c4, f4, rfl, hk4, hn4, h4, hi4, hl4, hR4, kk4⟩
  have hle4 := h4.le
  have y2 := k2.size
  have y3 := k3.size
  have y1 := kk1.size
  have hk14 : Jl4 w4 k1 := ((hk1.kp k2 sI).kp k3 (fun b hb q => by have := hn1 b hb; have := List.mem_singleton.1 q; omega)).kp kk4 (fun b hb q => by have := hn1 b hb; have := List.mem_singleton.1 q; omega)
  refine Zc (Jk2 7 hk14 hk4 oM) ?_
  rintro v w5 ⟨k5, rfl, hl5, hk5, kk5, hn5⟩
  have y4 := kk4.size
  have hlen5 : k5.l.length = 1 + (k1.l.length + k4.l.length) := by rw [hl5]; simp [Ji5]; omega
  refine zS ?_
  refine ⟨(k5, i4, c4, f4, mm, (adv (g.st i1) >>= rd mm 5) >>= fun y => .ok (.n2 7 0 [] t y.1, y.2)), rfl, ⟨h4.kp0 kk5, hk5, fun b hb => by have := hn5 b hb; omega, by dsimp only; omega, by dsimp only; omega, Qo2 hR4 hl5 hR1.2, (((kk1.into k2 sI).trans k3).trans kk4).into kk5 sI, by dsimp only; omega, ?_, fun z hz => ?_⟩, by dsimp only; omega⟩
  ·show rw (mm + 1) 4 t (g.st i1) = _
   rw [Qg7 hrow]
   cases adv (g.st i1) with
   | error q => rfl
   | ok s' =>
    show (rd mm 5 s' >>= _) = ((rd mm 5 s' >>= _) >>= _)
    cases rd mm 5 s' <;> rfl
  ·dsimp only at hz ⊢
   cases hq : (adv (g.st i1) >>= rd mm 5) with
   | error q => rw [hq] at hz; cases hz
   | ok u =>
    rw [hq] at hR4
    have := Jw8 (s := u.2) (t := u.1) hR4
    omega
 | false =>
  refine zS ?_
  refine ⟨_, rfl, k1, i1, c1, f1, rfl, hk1.kp k2 sI, hn1, h1.kp0 k2, hi1, hl1, ?_, kk1.into k2 sI⟩
  cases x with
  | error q => exact hR1
  | ok z =>
   obtain ⟨t, s⟩ := z
   have hfu := hfu _ rfl
   obtain ⟨mm, rfl⟩ : ∃ q, mm = q + 1 := ⟨mm - 1, oM⟩
   have his : s.is [42] = false := his
   have hrow : Jj6 4 s = none := by
    show (if s.is [42] = true then some (7 : Int) else none) = none
    rw [if_neg (by rw [his]; simp)]
   show Rel g (rw (mm + 1) 4 t s) _ _ _ _
   rw [Jz4 hrow]; exact hR1
end
end Go.Vc
