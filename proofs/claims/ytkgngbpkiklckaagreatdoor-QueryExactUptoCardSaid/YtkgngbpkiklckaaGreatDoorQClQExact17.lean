/- Parts of a proof. -/
import Derived.Test.YtkgngbpkiklckaaGreatDoorQClQExact16
import Derived.WalkKit
import Derived.ProofKit
set_option maxHeartbeats 12800000
namespace Go.Vc
open Go Go.Proofs
set_option maxRecDepth 20000
section
variable {w : World}
theorem sensible_ret : ∀ (t : QT) {w : World} {lo p : Nat}, Jc3 shQ lo w t p → Ret Tryz.prog 84 [ptr p] w (fun v w' => v = .bool (Jd7 t) ∧ Kp [] w w') := by
 intro t
 induction t using QT.ind with
 | h t ih =>
 intro w lo p hT
 obtain ⟨bad, bcap, ks, hks, hB, hR, hK, _⟩ := hT.view
 have hmean : Jd7 t = !(ks.any fun x => !decide (Jb2 x.2.op.toNat = ofO t.op.toNat) || !Jd7 x.2) := by
  have e1 : (ks.any fun x => !decide (Jb2 x.2.op.toNat = ofO t.op.toNat) || !Jd7 x.2) = (t.kids.any fun x => !decide (Jb2 x.op.toNat = ofO t.op.toNat) || !Jd7 x) := by
   rw [← hks, List.any_map]; rfl
  rw [e1]
  cases t with
  | n0 op num name => rfl
  | n1 op num name a =>
   show (decide (Jb2 a.op.toNat = ofO op.toNat) && Jd7 a) = !((!decide (Jb2 a.op.toNat = ofO op.toNat) || !Jd7 a) || false)
   simp
  | n2 op num name a b =>
   show ((decide (Jb2 a.op.toNat = ofO op.toNat) && Jd7 a) && (decide (Jb2 b.op.toNat = ofO op.toNat) && Jd7 b)) = !((!decide (Jb2 a.op.toNat = ofO op.toNat) || !Jd7 a) || ((!decide (Jb2 b.op.toNat = ofO op.toNat) || !Jd7 b) || false))
   simp
 have hkl : ks.length ≤ 2 := by rw [← List.length_map (f := fun x : Nat × QT => x.2), hks]; exact t.kids_len
 have hpl := hB.lt
 rw [hmean]
 refine Ze Tryz.call84 Tryz.func84 ?_
 refine zS ?_
 refine Zx ?_
 intro b w1 hb hu1
 have k1 : Kp [] w w1 := hu1.new oM
 have hB1 := k1.b0 hB
 have hb1 : Blk w1 b [ptr p] 87 := hu1.blk
 refine zL hb1 ?_
 refine Zl (v := .slice bad ks.length bcap) rfl hB1 ?_
 refine zS ?_
 refine Zc (Jr0 (f := 127) (cs := [ptr b]) (b := fun x => !decide (Jb2 x.2.op.toNat = ofO t.op.toNat) || !Jd7 x.2) (hR.kp k1 sI) hkl (fun x hx W kW => ?_)) ?_
 ·have hxk : x.2 ∈ t.kids := by rw [← hks]; exact List.mem_map_of_mem hx
  have hTx := (hK x hx).kp (k1.trans kW) sI
  obtain ⟨_, _, _, _, hBx, _, _, _⟩ := hTx.view
  have hbW := kW.b0 hb1
  have hBW := kW.b0 hB1
  refine Ze Tryz.call127 Tryz.func127 ?_
  refine zS ?_
  refine Ja9 ?_
  refine Jd8 (α := Unit) [3] (fun _ => [.bool (!decide (Jb2 x.2.op.toNat = ofO t.op.toNat) || !Jd7 x.2)]) (fun _ W' => Kp [] W W') ?_ ?_
  ·refine Jc9 Ja0 kR ?_
   refine zQ ?_
   refine Zq (v := I (Jb2 x.2.op.toNat)) rfl (fun _ hs => (Kp.blk hs sI hBx).cell rfl) ?_
   refine zQ ?_
   refine Zq (v := ptr p) rfl (fun _ hs => (Kp.blk hs sI hbW).cell rfl) ?_
   refine zQ ?_
   refine Zq (v := I (ofO t.op.toNat)) rfl (fun _ hs => (Kp.blk hs sI hBW).cell rfl) ?_
   refine zQ ?_
   refine Ji0 _ _ rfl rfl rfl (fun h1 => ?_) (fun h1 => ?_)
   ·refine zQ ?_
    intro w' hs
    exact ⟨(), by rw [h1]; rfl, hs⟩
   ·refine zQ ?_
    refine Zk (.bool (Jd7 x.2)) (fun w' hw => (ih x.2 hxk (hTx.kp hw sI)).mono (fun v w'' ⟨h1, h2⟩ => ⟨h1, hw.trans h2⟩)) Tryz.call84 ?_
    refine zQ ?_
    intro w' hs
    exact ⟨(), by rw [h1]; rfl, hs⟩
  rintro _ e2 w3 k3
  refine zS ?_
  exact ⟨_, rfl, rfl, kW.trans k3⟩
 rintro v w3 ⟨rfl, k3⟩
 refine zS ?_
 exact ⟨_, rfl, rfl, k1.trans k3⟩
structure Rows (w : World) (ad : Option Addr) (cap : Nat) (l : List QN) : Prop where
 read : Ja7 w ad (l.flatMap qC)
 cap_ : l.length ≤ cap
 max_ : cap ≤ 9223372036854775807
 len : l.length ≤ 1048576
 name : ∀ x ∈ l, x.name.length ≤ 9223372036854775806
 num : ∀ x ∈ l, x.num ≤ 9223372036854775807
theorem Rows.kp {w' : World} {S' : List Nat} {ad : Option Addr} {cap : Nat} {l : List QN} (h : Rows w ad cap l) (hk : Kp S' w w') (hS : ∀ b ∈ Ja1 ad, b ∉ S') : Rows w' ad cap l := ⟨h.read.kp hk hS, h.cap_, h.max_, h.len, h.name, h.num⟩
theorem Ql3 {l : List QN} {ad : Option Addr} {cap : Nat} (hA : AscW w) (hR : Rows w ad cap l) :
  Ret Tryz.prog 45 [qV ad l.length cap] w (fun v w' => (match Jh9 l with | .error c => v = .tuple #[.pointer none, I c] | .ok t => ∃ p, v = .tuple #[ptr p, I 0] ∧ Jc3 shQ w.heap.size w' t p) ∧ Kp [] w w') := by
 have hm := hR.max_
 have hl : Jh9 l = match Jh1 l with | none => .error 305 | some t => if Jd9 t [] = false then .error 303 else if Jd7 t = false then .error 304 else .ok t := rfl
 refine Ze Tryz.call45 Tryz.func45 ?_
 refine zS ?_
 refine Zx ?_
 intro b w1 hb hu1
 have k1 : Kp [] w w1 := hu1.new oM
 have y1 := k1.size
 have hb1 : Blk w1 b [.slice ad l.length cap] 24 := hu1.blk
 refine zS ?_
 refine Zm (vs := [.slice ad l.length cap]) rfl hb1.cs ?_
 refine Zc (Qe6 (hA.kp k1 sI) (hR.read.kp k1 sI) hR.cap_ oM hR.name) ?_
 rintro v w2 ⟨hv, k2⟩
 cases hw : Jh1 l with
 | none =>
  rw [hw] at hv hl
  have hv : v = .pointer none := hv
  subst hv
  rw [hl]
  refine zS ?_
  exact ⟨_, rfl, rfl, k1.trans k2⟩
 | some t =>
  rw [hw] at hv hl
  obtain ⟨p, rfl, hT⟩ := hv
  obtain ⟨hg, hrow, hd⟩ := Jm7 hR.num hw
  refine zS ?_
  refine Zc (named_ret t hg (nad := none) (ncap := 0) [] hT rfl (by simp; omega)) ?_
  rintro v w3 ⟨rfl, k3⟩
  cases hn : Jd9 t [] with
  | false =>
   rw [hl]
   dsimp only
   rw [if_pos hn]
   refine zS ?_
   exact ⟨_, rfl, rfl, (k1.trans k2).trans k3⟩
  | true =>
   rw [hl]
   dsimp only
   rw [if_neg (by rw [hn]; simp)]
   refine zS ?_
   refine Zc (sensible_ret t (hT.kp k3 sI)) ?_
   rintro v w4 ⟨rfl, k4⟩
   cases hs : Jd7 t with
   | false =>
    rw [if_pos rfl]
    refine zS ?_
    exact ⟨_, rfl, rfl, ((k1.trans k2).trans k3).trans k4⟩
   | true =>
    rw [if_neg sI]
    refine zS ?_
    exact ⟨_, rfl, ⟨p, rfl, ((hT.kp k3 sI).kp k4 sI).lo_le y1⟩, ((k1.trans k2).trans k3).trans k4⟩
def Js2 (l : List QN) : Int × Int :=
 match Jh9 l with
 | .error c => (0, c)
 | .ok t => (Jb2 t.op.toNat, 0)
theorem Check_ret {l : List QN} {ad : Option Addr} {cap : Nat} (hA : AscW w) (hR : Rows w ad cap l) :
  Ret Tryz.prog 28 [qV ad l.length cap] w (fun v w' => v = .tuple #[I (Js2 l).1, I (Js2 l).2] ∧ Kp [] w w') := by
 unfold Js2
 refine Ze Tryz.call28 Tryz.func28 ?_
 refine zS ?_
 refine Zx ?_
 intro b w1 hb hu1
 have k1 : Kp [] w w1 := hu1.new oM
 have hb1 : Blk w1 b [.slice ad l.length cap] 24 := hu1.blk
 refine zS ?_
 refine Zm (vs := [.slice ad l.length cap]) rfl hb1.cs ?_
 refine Zc (Ql3 (hA.kp k1 sI) (hR.kp k1 sI)) ?_
 rintro v w2 ⟨hv, k2⟩
 cases hl : Jh9 l with
 | error c =>
  rw [hl] at hv
  have hv : v = .tuple #[.pointer none, I c] := hv
  have hc : c = 305 ∨ c = 303 ∨ c = 304 := by
   unfold Jh9 at hl
   split at hl
   ·cases hl; simp
   ·split at hl
    ·cases hl; simp
    ·split at hl
     ·cases hl; simp
     ·cases hl
  subst hv
  refine zS ?_
  refine Jn8 rfl (fun _ => ?_) (fun h => ?_)
  ·refine zS ?_
   exact ⟨_, rfl, rfl, k1.trans k2⟩
  ·omega
 | ok t =>
  rw [hl] at hv
  obtain ⟨p, rfl, hT⟩ := hv
  obtain ⟨_, _, _, _, hB, _, _, _⟩ := hT.view
  refine zS ?_
  refine Zl (v := I (Jb2 t.op.toNat)) rfl hB ?_
  refine zS ?_
  exact ⟨_, rfl, rfl, k1.trans k2⟩
end
end Go.Vc
namespace Go.Vc
open Go Go.Proofs Go.Shelf Go.RowKit
set_option maxRecDepth 10000
variable {w : World}
theorem r_lastKL {P : Program} {n : Nat} {e : Env} {K : Jc0} {X : List (Nat × Jc0)} {R : Jc0} {ro : Ro} {o : Oper} {id : Nat} {L : List Oper} (hm : P.follows .mixedOrders = true) (hL : L.getLast? = some o) (hB : Region.lexB .any L.dropLast.toArray = true) (hS : sinkB L = true)
  (h : QOps P n L.dropLast [] (Kp [] w) (fun e' => ∀ w', Kp [] w w' → Ops ro P n [o] [] K [o] e' w') L.dropLast e) : Wp ro P n (.region id L.toArray true) K X R e w := by
 have e1 : L = L.dropLast ++ [o] := by
  have hne : L ≠ [] := by rintro rfl; simp at hL
  have h1 := List.dropLast_concat_getLast hne
  have h2 := List.getLast?_eq_some_getLast hne
  rw [hL] at h2
  rw [← Option.some.inj h2] at h1
  exact h1.symm
 exact r_lastC (Kp [] w) hm e1 hB (by rw [← e1]; exact hS) ((Sm.drew w).kp []) h
structure BdAt (w0 w : World) (b : Nat) (l : List UInt8) : Prop where
 is : Lib.IsBuilderF 92 5 w0.heap.size b (Lib.byteCells l) w
 kp : Kp [] w0 w
theorem isB_kp {B b : Nat} {bs : List Value} {w' : World} {T e : TypeId} (h : Lib.IsBuilderF T e B b bs w) (hk : Kp [] w w') : Lib.IsBuilderF T e B b bs w' := by
 have at_ : ∀ {p : Value}, Lib.BuilderAtF T e B b p bs w → Lib.BuilderAtF T e B b p bs w' := by
  rintro p ⟨h1, v, h2, ⟨h3, h4⟩, h5⟩
  have keep : ∀ {k : Nat} {o : Obj}, w.heap[k]? = some o → w'.heap[k]? = some o := fun {k o} hko => by
   rw [hk.at_ k (Array.getElem?_eq_some_iff.1 hko).1 sI]; exact hko
  refine ⟨h1, v, keep h2, ⟨h3, ?_⟩, h5⟩
  rcases h4 with h4 | ⟨g, cap, cur, fz, g1, g2, g3, g4⟩
  ·exact .inl h4
  ·exact .inr ⟨g, cap, cur, fz, g1, g2, keep g3, g4⟩
 exact h.elim (fun h => .inl (at_ h)) (fun h => .inr (at_ h))
theorem BdAt.kp' {w0 w' : World} {b : Nat} {l : List UInt8} (h : BdAt w0 w b l) (hk : Kp [] w w') : BdAt w0 w' b l := ⟨isB_kp h.is hk, h.kp.trans hk⟩
theorem BdAt.ge {w0 : World} {b : Nat} {l : List UInt8} (h : BdAt w0 w b l) : w0.heap.size ≤ b := h.is.elim (fun h => h.1) (fun h => h.1)
structure BdTo (w0 w : World) (b : Nat) (l : List UInt8) (w' : World) : Prop extends BdAt w0 w' b l where
 oth : Lib.OthersKept 5 (some b) w w'
 size : w.heap.size ≤ w'.heap.size
theorem BdTo.trans {w0 w1 w2 : World} {b : Nat} {l l' : List UInt8} (h : BdTo w0 w b l w1) (k : BdTo w0 w1 b l' w2) : BdTo w0 w b l' w2 := ⟨k.toBdAt, h.oth.trans k.oth, Nat.le_trans h.size k.size⟩
theorem BdTo.since {w0 w1 w2 : World} {b : Nat} {l : List UInt8} (h : Kp [] w w1) (k : BdTo w0 w1 b l w2) : BdTo w0 w b l w2 :=
 ⟨k.toBdAt, fun i o hi hb ho => k.oth i o (by rw [h.at_ i (Array.getElem?_eq_some_iff.1 hi).1 sI]; exact hi) hb ho, Nat.le_trans h.size k.size⟩
theorem BdTo.blk {w0 w' : World} {b c : Nat} {l : List UInt8} {cs : List Value} {T : TypeId} (h : BdTo w0 w b l w') (hc : Blk w c cs T) (hcb : c ≠ b) (hT : T ≠ 5) : Blk w' c cs T :=
 h.oth c _ hc (fun e => hcb (Option.some.inj e)) (fun x fz e => by injection e with _ e2; exact hT e2)
theorem Jw3 {w0 w1 w2 : World} (h : Kp [] w0 w1) (hb : Below w0.heap.size w1 w2) : Kp [] w0 w2 := by
 obtain ⟨h1, h2, h3, h4, h5⟩ := hb
 exact ⟨h1.trans h.os, h2.trans h.tape, h3.trans h.output, Nat.le_trans h.size h4, fun k hk hS => (h5 k hk).trans (h.at_ k hk hS)⟩
theorem xWB : Builder.Extra Tryz.prog Tryz.layWB_ren := { sizeBuilder := by kernel_rfl, liesBuilder := by kernel_rfl, t5 := Tryz.underlying5, a5 := Tryz.isAgg5, z5 := Tryz.sizeOf5, v5 := Tryz.zeroValue5, infoByte := by kernel_rfl, cellsByte := by kernel_rfl, sizeByte := by kernel_rfl, neB5 := by decide }
theorem xWS : Builder.Extra Tryz.prog Tryz.layWS_ren := { sizeBuilder := by kernel_rfl, liesBuilder := by kernel_rfl, t5 := Tryz.underlying5, a5 := Tryz.isAgg5, z5 := Tryz.sizeOf5, v5 := Tryz.zeroValue5, infoByte := by kernel_rfl, cellsByte := by kernel_rfl, sizeByte := by kernel_rfl, neB5 := by decide }
theorem xBS : Builder.Extra Tryz.prog Tryz.layBS_ren := { sizeBuilder := by kernel_rfl, liesBuilder := by kernel_rfl, t5 := Tryz.underlying5, a5 := Tryz.isAgg5, z5 := Tryz.sizeOf5, v5 := Tryz.zeroValue5, infoByte := by kernel_rfl, cellsByte := by kernel_rfl, sizeByte := by kernel_rfl, neB5 := by decide }
theorem Jy6 (l r : List UInt8) : Lib.byteCells (l ++ r) = Lib.byteCells l ++ Lib.byteCells r := by simp [Lib.byteCells]
theorem Jq5 (l : List UInt8) : (Lib.byteCells l).length = l.length := by simp [Lib.byteCells]
theorem Jm2 {w0 : World} {b : Nat} {l : List UInt8} (h : BdAt w0 w b l) (hl : l.length ≤ 70368744177664) (c : UInt8) : Ret Tryz.prog 74 [ptr b, Y c] w (fun v w' => v = .nilIface ∧ BdTo w0 w b (l ++ [c]) w') := by
 refine ⟨Tryz.call74, ?_⟩
 refine Calls.mono (Any.Builder_WriteByte_k Tryz.layWB xWB w0.heap.size b (Lib.byteCells l) (c.toNat : Int) w h.is (by rw [Jq5]; omega) h.kp.size) ?_
 rintro e w' ⟨rfl, h1, h2, h3⟩
 refine ⟨_, rfl, rfl, ⟨⟨?_, Jw3 h.kp h2⟩, h3, h2.size⟩⟩
 rw [Jy6]
 exact .inr h1
theorem Je6 {w0 : World} {b : Nat} {l : List UInt8} (h : BdAt w0 w b l) (s : List UInt8) (hl : l.length + s.length ≤ 70368744177664) : Ret Tryz.prog 75 [ptr b, S s] w (fun v w' => v = .tuple #[I s.length, .nilIface] ∧ BdTo w0 w b (l ++ s) w') := by
 refine ⟨Tryz.call75, ?_⟩
 refine Calls.mono (Any.Builder_WriteString_k Tryz.layWS xWS w0.heap.size b (Lib.byteCells l) ⟨⟨s⟩⟩ w h.is (by rw [Jq5]; show l.length + s.length ≤ _; omega) h.kp.size) ?_
 rintro e w' ⟨rfl, h1, h2, h3⟩
 refine ⟨_, rfl, rfl, ⟨⟨?_, Jw3 h.kp h2⟩, h3, h2.size⟩⟩
 rw [Jy6]
 exact .inr h1
theorem BLen_ret {w0 : World} {b : Nat} {l : List UInt8} (h : BdAt w0 w b l) : Ret Tryz.prog 38 [ptr b] w (fun v w' => v = I l.length ∧ w' = w) := by
 refine ⟨Tryz.call38, ?_⟩
 refine Calls.mono (Any.Builder_Len_f Tryz.layBL w0.heap.size b (Lib.byteCells l) w h.is) ?_
 rintro e w' ⟨rfl, h2⟩
 exact ⟨_, rfl, by rw [Jq5], h2⟩
theorem BString_ret {w0 : World} {b : Nat} {l : List UInt8} (h : BdAt w0 w b l) : Ret Tryz.prog 39 [ptr b] w (fun v w' => v = S l ∧ BdTo w0 w b l w') := by
 refine ⟨Tryz.call39, ?_⟩
 refine Calls.mono (Any.Builder_String_any_k Tryz.layBS xBS w0.heap.size b l w h.is h.kp.size) ?_
 rintro e w' ⟨rfl, h1, h2, h3⟩
 exact ⟨_, rfl, rfl, ⟨⟨h1, Jw3 h.kp h2⟩, h3, h2.size⟩⟩
def PowQ (w : World) : Prop := Lib.TabIs Tryz.prog w "internal/strconv.uint64pow10" .u64 Lib.pow10Tab
theorem powGQ : Tryz.prog.globalNamed "internal/strconv.uint64pow10" = some 2 := by kernel_rfl
theorem PowQ.heap {w w' : World} (h : PowQ w) (hk : w'.heap[2]? = w.heap[2]?) : PowQ w' := by
 unfold PowQ Lib.TabIs World.var? at *
 rw [powGQ] at *
 simpa [hk] using h
theorem PowQ.lt {w : World} (h : PowQ w) : 2 < w.heap.size := by
 unfold PowQ Lib.TabIs World.var? at *
 rw [powGQ] at *
 simp only [Option.bind_some] at h
 cases hx : w.heap[2]? with
 | none => rw [hx] at h; simp at h
 | some o => exact (Array.getElem?_eq_some_iff.1 hx).1
theorem PowQ.kp {w w' : World} {F : List Nat} (h : PowQ w) (hk : Kp F w w') (hF : 2 ∉ F) : PowQ w' := h.heap (hk.at_ _ h.lt hF)
theorem grown_kpQ {w1 : World} {k : Nat} {os : Array Obj} (h : w1 = Go.Sort.grow (w.drewN k) os) : Kp [] w w1 := by
 subst h
 refine ⟨rfl, rfl, rfl, ?_, fun i hi _ => ?_⟩
 ·show w.heap.size ≤ (w.heap ++ os).size
  rw [Array.size_append]; omega
 ·show (w.heap ++ os)[i]? = _
  exact Array.getElem?_append_left hi
theorem Itoa_ret (hP : PowQ w) (n : Nat) (hn : n ≤ 9223372036854775807) : Ret Tryz.prog 76 [I n] w (fun v w' => v = S (Lib.decDigits n) ∧ Kp [] w w') := by
 refine ⟨Tryz.call76, ?_⟩
 refine Calls.mono (Any.strconv_Itoa Tryz.layItoa (n : Int) oM oM w hP) ?_
 rintro e w' ⟨rfl, k, os, hw⟩
 exact ⟨_, rfl, by show _ = Value.string ⟨⟨Lib.decDigits n⟩⟩; unfold Lib.itoa; simp, grown_kpQ hw⟩
end Go.Vc

namespace Go.Vc
open Go Go.Proofs
set_option maxRecDepth 20000
section
variable {w : World}
def Js7 : List QT → List UInt8
 | [] => []
 | x :: r => Jc8 x ++ r.flatMap fun y => [44, 32] ++ Jc8 y
theorem joinC_snoc (l : List QT) (x : QT) : Js7 (l ++ [x]) = Js7 l ++ (if l = [] then [] else [44, 32]) ++ Jc8 x := by
 cases l with
 | nil => simp [Js7]
 | cons y r => simp [Js7]
def brkM (t : QT) : List UInt8 := brk t (Jc8 t)
theorem Qe4 {t : QT} (hg : Jd2 t) : ∃ k : Nat, t.op = k ∧ 1 ≤ k ∧ k ≤ 26 ∧ t.kids.length = Jc7 k := by
 cases t with
 | n0 op num name => rcases hg with ⟨rfl, _⟩ | ⟨rfl, _⟩ | ⟨rfl, _⟩; exact ⟨1, rfl, oM, oM, rfl⟩; exact ⟨2, rfl, oM, oM, rfl⟩; exact ⟨3, rfl, oM, oM, rfl⟩
 | n1 op num name a =>
  obtain ⟨_, _, ⟨h, _⟩ | ⟨h, _⟩⟩ := hg
  ·rcases h with rfl | rfl | rfl | rfl | rfl
   ·exact ⟨4, rfl, oM, oM, rfl⟩
   ·exact ⟨8, rfl, oM, oM, rfl⟩
   ·exact ⟨9, rfl, oM, oM, rfl⟩
   ·exact ⟨10, rfl, oM, oM, rfl⟩
   ·exact ⟨17, rfl, oM, oM, rfl⟩
  ·rcases h with rfl | rfl | rfl | rfl | rfl
   ·exact ⟨22, rfl, oM, oM, rfl⟩
   ·exact ⟨23, rfl, oM, oM, rfl⟩
   ·exact ⟨24, rfl, oM, oM, rfl⟩
   ·exact ⟨25, rfl, oM, oM, rfl⟩
   ·exact ⟨26, rfl, oM, oM, rfl⟩
 | n2 op num name a b =>
  obtain ⟨_, _, _, _, h⟩ := hg
  rcases h with rfl | rfl | rfl | rfl | rfl | rfl | rfl | rfl | rfl | rfl | rfl | rfl | rfl
  ·exact ⟨5, rfl, oM, oM, rfl⟩
  ·exact ⟨6, rfl, oM, oM, rfl⟩
  ·exact ⟨7, rfl, oM, oM, rfl⟩
  ·exact ⟨11, rfl, oM, oM, rfl⟩
  ·exact ⟨12, rfl, oM, oM, rfl⟩
  ·exact ⟨13, rfl, oM, oM, rfl⟩
  ·exact ⟨14, rfl, oM, oM, rfl⟩
  ·exact ⟨15, rfl, oM, oM, rfl⟩
  ·exact ⟨16, rfl, oM, oM, rfl⟩
  ·exact ⟨18, rfl, oM, oM, rfl⟩
  ·exact ⟨19, rfl, oM, oM, rfl⟩
  ·exact ⟨20, rfl, oM, oM, rfl⟩
  ·exact ⟨21, rfl, oM, oM, rfl⟩
theorem good_kids {t : QT} (hg : Jd2 t) : ∀ k ∈ t.kids, Jd2 k := by
 intro k hk
 cases t with
 | n0 => simp [QT.kids] at hk
 | n1 op num name a => simp [QT.kids] at hk; subst hk; exact hg.2.1
 | n2 op num name a b => simp [QT.kids] at hk; rcases hk with rfl | rfl; exact hg.2.1; exact hg.2.2.1
theorem told_kids {t : QT} {k : Nat} (hg : Jd2 t) (hk : t.op = k) : Jc8 t =
  if k = 1 then Lib.decDigits t.num.toNat else if k = 2 then t.name
  else if Jm0 k then Ja3 k ++ [40] ++ Js7 t.kids ++ [41]
  else if Jb6 k then Ja3 k ++ [32] ++ t.name ++ [58, 32] ++ t.kids.flatMap Jc8
  else if Jc7 k = 2 then brkM (t.kids.getD 0 t) ++ ([32] ++ Ja3 k ++ [32]) ++ brkM (t.kids.getD 1 t)
  else Ja3 k ++ (if k = 17 then [32] else []) ++ t.kids.flatMap brkM := by
 cases t with
 | n0 op num name =>
  have hk : op = k := hk
  rcases hg with ⟨rfl, _⟩ | ⟨rfl, _⟩ | ⟨rfl, _⟩
  ·obtain rfl : k = 1 := oM
   rfl
  ·obtain rfl : k = 2 := oM
   rfl
  ·obtain rfl : k = 3 := oM
   rfl
 | n1 op num name a =>
  have hk : op = k := hk
  subst hk
  obtain ⟨_, _, ⟨h, _⟩ | ⟨h, _⟩⟩ := hg
  ·have : k = 4 ∨ k = 8 ∨ k = 9 ∨ k = 10 ∨ k = 17 := oM
   rcases this with rfl | rfl | rfl | rfl | rfl <;> simp [Jc8, Jm0, Jb6, Jc7, QT.kids, Js7, brkM]
  ·have : k = 22 ∨ k = 23 ∨ k = 24 ∨ k = 25 ∨ k = 26 := oM
   rcases this with rfl | rfl | rfl | rfl | rfl <;> simp [Jc8, Jm0, Jb6, Jc7, QT.kids, Js7, brkM, QT.name]
 | n2 op num name a b =>
  have hk : op = k := hk
  subst hk
  obtain ⟨_, _, _, _, h⟩ := hg
  have : k = 5 ∨ k = 6 ∨ k = 7 ∨ k = 11 ∨ k = 12 ∨ k = 13 ∨ k = 14 ∨ k = 15 ∨ k = 16 ∨ k = 18 ∨ k = 19 ∨ k = 20 ∨ k = 21 := oM
  rcases this with rfl | rfl | rfl | rfl | rfl | rfl | rfl | rfl | rfl | rfl | rfl | rfl | rfl <;> simp [Jc8, Jm0, Jb6, Jc7, QT.kids, Js7, brkM]
def TextOk (t : QT) : Prop := ∀ {w0 W : World} {b lo p : Nat} {l : List UInt8}, PowQ w0 → Jc3 shQ lo w0 t p → Jd2 t → BdAt w0 W b l → l.length + (Jc8 t).length ≤ 35184372088832 →
 Ret Tryz.prog 37 [ptr p, ptr b] W (fun v W' => v = .tuple #[] ∧ BdTo w0 W b (l ++ Jc8 t) W')
theorem kid_ok {t : QT} (ih : TextOk t) {w0 W : World} {b b3 lo p : Nat} {l : List UInt8} (hP : PowQ w0) (hT : Jc3 shQ lo w0 t p) (hg : Jd2 t) (hb : BdAt w0 W b l) (h3 : Blk W b3 [ptr b] 89) (hne : b3 ≠ b) (hl : l.length + (brkM t).length ≤ 35184372088832) :
  Ret Tryz.prog 73 [ptr p, ptr b3] W (fun v W' => v = .tuple #[] ∧ BdTo w0 W b (l ++ brkM t) W') := by
 obtain ⟨k, hk, hk1, hk2, hkl⟩ := Qe4 hg
 obtain ⟨bad, bcap, ks, hks, hB, hR, hK, _⟩ := hT.view
 have hBW := hb.kp.b0 hB
 rw [hk] at hBW
 have hbrk : brkM t = if Jm0 k = true ∨ Jc7 k = 0 then Jc8 t else 40 :: (Jc8 t ++ [41]) := by
  unfold brkM brk; rw [hk]; rfl
 refine Ze Tryz.call73 Tryz.func73 ?_
 refine zS ?_
 refine Zl (v := .bool (Jm0 k)) rfl hBW ?_
 refine Jn9 [0, 1] [ptr p, ptr b3] 15 (Jm0 k || decide (Jc7 k = 0)) (fun W' => W' = W) ?_ ?_
 ·refine zS ?_
  refine Ja5 _ _ rfl rfl rfl (fun h1 => ?_) (fun h1 => ?_)
  ·refine zS ?_
   exact ⟨rfl, ⟨_, rfl, by rw [h1]; rfl⟩, rfl⟩
  ·refine zS ?_
   refine Zl (v := I (Jc7 k)) rfl hBW ?_
   refine zS ?_
   exact ⟨rfl, ⟨_, rfl, by rw [h1, Bool.false_or, decide_eq_decide]; omega⟩, rfl⟩
 rintro e1 W' rfl
 refine Je1 rfl (fun hc => ?_) (fun hc => ?_)
 ·rw [if_pos (by simpa using hc)] at hbrk
  rw [hbrk] at hl ⊢
  refine zS ?_
  refine Zl rfl h3 ?_
  refine Zc (ih hP hT hg hb hl) ?_
  rintro v w1 ⟨rfl, hb1⟩
  refine zS ?_
  exact ⟨_, rfl, rfl, hb1⟩
 ·rw [if_neg (by simpa using hc)] at hbrk
  rw [hbrk] at hl ⊢
  simp only [List.length_cons, List.length_append, List.length_nil] at hl
  refine zS ?_
  refine Zl rfl h3 ?_
  refine Zc (Jm2 hb oM 40) ?_
  rintro v w1 ⟨rfl, hb1⟩
  refine zS ?_
  refine Zl rfl (hb1.blk h3 hne dE) ?_
  refine Zc (ih hP hT hg hb1.toBdAt (by simp; omega)) ?_
  rintro v w2 ⟨rfl, hb2⟩
  have hb12 := hb1.trans hb2
  refine zS ?_
  refine Zl rfl (hb12.blk h3 hne dE) ?_
  refine Zc (Jm2 hb12.toBdAt (by simp; omega) 41) ?_
  rintro v w3 ⟨rfl, hb3⟩
  refine zS ?_
  refine ⟨_, rfl, rfl, ?_⟩
  have := hb12.trans hb3
  simpa using this
theorem flat_take {α β : Type} (l : List α) (f : α → List β) {i : Nat} {x : α} (h : l[i]? = some x) : (l.take (i + 1)).flatMap f = (l.take i).flatMap f ++ f x := by
 rw [List.take_add_one, h]; simp
theorem text_ok : ∀ t, TextOk t := by
 intro t
 induction t using QT.ind with
 | h t ih =>
 intro w0 W b lo p l hP hT hg hb hl
 obtain ⟨k, hk, hk1, hk2, hkl⟩ := Qe4 hg
 obtain ⟨bad, bcap, ks, hks, hB, hR, hK, _⟩ := hT.view
 have hksl : ks.length = Jc7 k := by rw [← hkl, ← hks, List.length_map]
 have hkd := Jk7 k
 have hkid : ∀ x ∈ ks, TextOk x.2 ∧ Jd2 x.2 := fun x hx => by
  have : x.2 ∈ t.kids := by rw [← hks]; exact List.mem_map_of_mem hx
  exact ⟨ih _ this, good_kids hg _ this⟩
 have hto := told_kids hg hk
 have hBW := hb.kp.b0 hB
 have hlo := hb.ge
 have hRW := hR.kp hb.kp sI
 rw [hk] at hBW hB
 have hkcell : ∀ i x, ks[i]? = some x → ∃ b0 off, bad = some ⟨b0, off, none⟩ ∧ ∀ W', Kp [] w0 W' → W'.cell? ⟨b0, off + i, none⟩ = some (ptr x.1) := fun i x hx => by
  have hi := (List.getElem?_eq_some_iff.1 hx).1
  obtain ⟨b0, off, e, hb0, hc⟩ := hR.at_ (by simp; omega)
  refine ⟨b0, off, e, fun W' hk' => ?_⟩
  rw [← hc i (ptr x.1) (by rw [List.getElem?_map, hx]; rfl)]
  exact World.cell?_of_block (hk'.at_ b0 hb0 sI)
 refine Ze Tryz.call37 Tryz.func37 ?_
 refine zS ?_
 refine Zx ?_
 intro b3 w1 hb3 hu1
 have k1 : Kp [] W w1 := hu1.new oM
 have h31 : Blk w1 b3 [ptr b] 89 := hu1.blk
 have hb1 := hb.kp' k1
 have hne : b3 ≠ b := by
  have : b < W.heap.size := by
   rcases hb.is with h | h
   ·obtain ⟨_, v, h2, _⟩ := h; exact (Array.getElem?_eq_some_iff.1 h2).1
   ·obtain ⟨_, v, h2, _⟩ := h; exact (Array.getElem?_eq_some_iff.1 h2).1
  omega
 have hB1 := k1.b0 hBW
 clear hu1
 have fin : ∀ {w' : World} {r : List UInt8}, BdTo w0 w1 b r w' → r = l ++ Jc8 t → BdTo w0 W b (l ++ Jc8 t) w' := fun h e => e ▸ h.since k1
 refine zL hB1 ?_
 refine r_if rfl (fun h1 => ?_) (fun h1 => ?_)
 ·have h1 : k = 1 := oM
  rw [if_pos h1] at hto
  rw [hto] at hl
  have hnum : 0 ≤ t.num ∧ t.num ≤ 9223372036854775807 := by
   cases t with
   | n0 op num name =>
    have hk : op = k := hk
    rcases hg with ⟨_, h1, h2, _⟩ | ⟨h, _⟩ | ⟨h, _⟩
    ·exact ⟨h1, h2⟩
    ·omega
    ·omega
   | n1 op num name a => obtain ⟨rfl, _, _⟩ := hg; exact ⟨by show (0 : Int) ≤ 0; omega, by show (0 : Int) ≤ _; omega⟩
   | n2 op num name a b => obtain ⟨rfl, _, _⟩ := hg; exact ⟨by show (0 : Int) ≤ 0; omega, by show (0 : Int) ≤ _; omega⟩
  obtain ⟨u, hu⟩ : ∃ u : Nat, t.num = u := ⟨t.num.toNat, oM⟩
  rw [hu, Int.toNat_natCast] at hto hl
  rw [hu] at hB1
  refine r_lastKL Ja0 rfl kR kR ?_
  refine Zq rfl (fun _ hs => (Kp.blk hs sI h31).cell rfl) ?_
  refine zN hB1 ?_
  refine Zk (S (Lib.decDigits u)) (fun w' hw => (Itoa_ret (hP.kp (hb1.kp.trans hw) sI) u oM).mono (fun v w'' ⟨h1, h2⟩ => ⟨h1, hw.trans h2⟩)) Tryz.call76 ?_
  refine zN hB1 ?_
  intro w' hs
  refine Zc (Je6 (hb1.kp' hs) (Lib.decDigits u) oM) ?_
  rintro v w2 ⟨rfl, hb2⟩
  refine zS ?_
  exact ⟨_, rfl, rfl, fin (hb2.since hs) (by rw [hto])⟩
 rw [if_neg oM] at hto
 refine zL hB1 ?_
 refine r_if rfl (fun h2 => ?_) (fun h2 => ?_)
 ·have h2 : k = 2 := oM
  rw [if_pos h2] at hto
  rw [hto] at hl
  refine Je9 Ja0 rfl kR kR ?_
  refine Zq rfl (fun _ hs => (Sm.blk hs h31).cell rfl) ?_
  refine zM hB1 ?_
  intro w' hs
  refine Zc (Je6 (hb1.kp' (hs.kp [])) t.name oM) ?_
  rintro v w2 ⟨rfl, hb2⟩
  refine zS ?_
  exact ⟨_, rfl, rfl, fin (hb2.since (hs.kp [])) (by rw [hto])⟩
 rw [if_neg oM] at hto
 refine zS ?_
 refine Zl (v := .bool (Jm0 k)) rfl hB1 ?_
 refine zS ?_
 have hwl : (Ja3 k).length ≤ 6 := by
  have hall : ∀ k ∈ List.range 27, (Ja3 k).length ≤ 6 := dE
  exact hall k (List.mem_range.2 oM)
 refine Je1 rfl (fun hca => ?_) (fun hca => ?_)
 ·-- a call
  rw [if_pos hca] at hto
  have hlen := congrArg List.length hto
  simp only [List.length_append, List.length_cons, List.length_nil] at hlen
  refine Ja9 ?_
  refine Jd8 (α := Unit) [0, 3] (fun _ => [ptr p, ptr b3]) (fun _ W' => BdTo w0 w1 b (l ++ (Ja3 k ++ [40])) W') ?_ ?_
  ·refine Je9 Ja0 rfl kR kR ?_
   refine Zq rfl (fun _ hs => (Sm.blk hs h31).cell rfl) ?_
   refine zQ ?_
   refine Zq (v := S (Ja3 k)) rfl (fun _ hs => (Sm.blk hs hB1).cell rfl) ?_
   refine yo rfl rfl (by simp only [AllP, List.length_cons, List.length_nil]; omega) ?_
   refine yn ?_
   intro w' hs
   refine Zc (Je6 (hb1.kp' (hs.kp [])) (Ja3 k ++ [40]) (by simp; omega)) ?_
   rintro v w2 ⟨rfl, hb2⟩
   exact Ja6 ⟨(), rfl, hb2.since (hs.kp [])⟩
  rintro _ e2 w2 hb2
  have hB2 := hb2.kp.b0 hB
  refine zS ?_
  refine Zl (v := .slice bad ks.length bcap) rfl hB2 ?_
  refine zS ?_
  have hjl : ∀ i, (Js7 ((ks.take i).map (·.2))).length ≤ (Js7 t.kids).length := by
   intro i
   rw [← hks]
   have e : ks.map (·.2) = (ks.take i).map (·.2) ++ (ks.drop i).map (·.2) := by rw [← List.map_append, List.take_append_drop]
   rw [e]
   generalize (ks.take i).map (·.2) = a
   generalize (ks.drop i).map (·.2) = c
   cases a with
   | nil => simp [Js7]
   | cons x r => simp only [Js7, List.cons_append, List.flatMap_append, List.length_append]; omega
  refine Jb4 (α := Nat) [0, 3, 84, 85, 86] (fun i => [ptr p, ptr b3, .slice bad ks.length bcap, I ks.length, I i]) (fun i W' => i ≤ ks.length ∧ BdTo w0 w1 b (l ++ (Ja3 k ++ [40]) ++ Js7 ((ks.take i).map (·.2))) W') (fun i => ks.length - i) 0 rfl ⟨oM, by simpa [Js7] using hb2⟩ ?_
  rintro i e3 W3 ⟨hi, hbW⟩
  refine zS ?_
  refine r_if rfl (fun hc => ?_) (fun hc => ?_)
  ·have hi2 : i < ks.length := oM
   obtain ⟨x, hx⟩ : ∃ x, ks[i]? = some x := ⟨_, List.getElem?_eq_getElem hi2⟩
   obtain ⟨b0, off, rfl, hcell⟩ := hkcell i x hx
   have ht1 : ks.take (i + 1) = ks.take i ++ [x] := by rw [List.take_add_one, hx]; rfl
   have hj1 : Js7 ((ks.take (i + 1)).map (·.2)) = Js7 ((ks.take i).map (·.2)) ++ (if i = 0 then [] else [44, 32]) ++ Jc8 x.2 := by
    rw [ht1, List.map_append, List.map_singleton, joinC_snoc]
    congr 2
    cases i with
    | zero => rfl
    | succ i => rw [if_neg (by intro h; have h := congrArg List.length h; rw [List.length_map, List.length_take, List.length_nil] at h; omega), if_neg oM]
   have hj2 := hjl (i + 1)
   rw [hj1] at hj2
   simp only [List.length_append] at hj2
   obtain ⟨ih1, hg1⟩ := hkid x (List.mem_of_getElem? hx)
   have hTx := hK x (List.mem_of_getElem? hx)
   refine zS ?_
   refine Zo (v := ptr x.1) rfl (by rw [Ja2]; exact hcell _ hbW.kp) ?_
   refine zS ?_
   refine Jd8 (α := Unit) [0, 3, 6, 84, 85, 86] (fun _ => [ptr p, ptr b3, ptr x.1, .slice (some ⟨b0, off, none⟩) ks.length bcap, I ks.length, I i]) (fun _ W' => BdTo w0 w1 b (l ++ (Ja3 k ++ [40]) ++ Js7 ((ks.take i).map (·.2)) ++ (if i = 0 then [] else [44, 32])) W') ?_ ?_
   ·refine r_if rfl (fun h0 => ?_) (fun h0 => ?_)
    ·rw [if_neg oM] at hj2 ⊢
     simp only [List.length_cons, List.length_nil] at hj2
     refine zS ?_
     refine Zl rfl (hbW.blk h31 hne dE) ?_
     refine Zc (Je6 hbW.toBdAt [44, 32] (by simp only [List.length_append, List.length_cons, List.length_nil]; omega)) ?_
     rintro v w4 ⟨rfl, hb4⟩
     refine zS ?_
     exact ⟨(), rfl, hbW.trans hb4⟩
    ·rw [if_pos oM, List.append_nil]
     refine zS ?_
     exact ⟨(), rfl, hbW⟩
   rintro _ e4 w4 hb4
   refine zS ?_
   refine Zl rfl (hb4.blk h31 hne dE) ?_
   refine Zc (ih1 hP hTx hg1 hb4.toBdAt (by simp only [List.length_append, List.length_cons, List.length_nil]; omega)) ?_
   rintro v w5 ⟨rfl, hb5⟩
   refine zS ?_
   refine ⟨i + 1, rfl, ⟨oM, ?_⟩, oM⟩
   rw [hj1, ← List.append_assoc, ← List.append_assoc]
   exact hb4.trans hb5
  ·have hi3 : i = ks.length := oM
   subst hi3
   rw [List.take_length, hks] at hbW
   refine zS ?_
   refine Zl rfl (hbW.blk h31 hne dE) ?_
   refine Zc (Jm2 hbW.toBdAt (by simp only [List.length_append, List.length_cons, List.length_nil]; omega) 41) ?_
   rintro v w5 ⟨rfl, hb5⟩
   refine zS ?_
   exact ⟨_, rfl, rfl, fin (hbW.trans hb5) (by rw [hto]; simp)⟩
 rw [if_neg (by rw [hca]; simp)] at hto
 refine zS ?_
 refine Zl (v := .bool (Jb6 k)) rfl hB1 ?_
 refine zS ?_
 refine Je1 rfl (fun hbi => ?_) (fun hbi => ?_)
 ·-- what binds
  rw [if_pos hbi] at hto
  have hk1' : Jc7 k = 1 := by
   simp only [Jb6, Bool.and_eq_true, decide_eq_true_eq] at hbi
   have : k = 22 ∨ k = 23 ∨ k = 24 ∨ k = 25 ∨ k = 26 := oM
   rcases this with rfl | rfl | rfl | rfl | rfl <;> rfl
  obtain ⟨x, hx⟩ : ∃ x, ks[0]? = some x := ⟨_, List.getElem?_eq_getElem oM⟩
  have hkx : t.kids = [x.2] := by
   rw [← hks]
   match ks, hx, (show ks.length = 1 by omega) with
   | [y], hx, _ => simp at hx; subst hx; rfl
  obtain ⟨b0, off, rfl, hcell⟩ := hkcell 0 x hx
  obtain ⟨ih1, hg1⟩ := hkid x (List.mem_of_getElem? hx)
  have hTx := hK x (List.mem_of_getElem? hx)
  rw [hkx] at hto
  simp only [List.flatMap_cons, List.flatMap_nil, List.append_nil] at hto
  have hlen := congrArg List.length hto
  simp only [List.length_append, List.length_cons, List.length_nil] at hlen
  refine Ja9 ?_
  refine Jd8 (α := Unit) [0, 3] (fun _ => [ptr p, ptr b3]) (fun _ W' => BdTo w0 w1 b (l ++ (Ja3 k ++ [32] ++ t.name ++ [58, 32])) W') ?_ ?_
  ·refine Je9 Ja0 rfl kR kR ?_
   refine Zq rfl (fun _ hs => (Sm.blk hs h31).cell rfl) ?_
   refine zQ ?_
   refine Zq (v := S (Ja3 k)) rfl (fun _ hs => (Sm.blk hs hB1).cell rfl) ?_
   refine yo rfl rfl (by simp only [AllP, List.length_cons, List.length_nil]; omega) ?_
   refine Zq (v := S t.name) rfl (fun _ hs => (Sm.blk hs hB1).cell rfl) ?_
   refine yo rfl rfl (by simp only [AllP, List.length_append, List.length_cons, List.length_nil]; omega) ?_
   refine yn ?_
   intro w' hs
   refine Zc (Je6 (hb1.kp' (hs.kp [])) (Ja3 k ++ [32] ++ t.name ++ [58, 32]) (by simp only [List.length_append, List.length_cons, List.length_nil]; omega)) ?_
   rintro v w2 ⟨rfl, hb2⟩
   exact Ja6 ⟨(), rfl, hb2.since (hs.kp [])⟩
  rintro _ e2 w2 hb2
  have hB2 := hb2.kp.b0 hB
  have h32 := hb2.blk h31 hne dE
  refine Je9 Ja0 rfl kR kR ?_
  refine zQ ?_
  refine Zq (v := .slice (some ⟨b0, off, none⟩) ks.length bcap) rfl (fun _ hs => (Sm.blk hs hB2).cell rfl) ?_
  refine yo rfl rfl (by simp only [AllP]; omega) ?_
  refine Zq (v := ptr x.1) rfl (fun w' hs => hcell w' (hb2.kp.trans (hs.kp []))) ?_
  refine zM h32 ?_
  intro w' hs
  refine Zc (ih1 hP hTx hg1 (hb2.kp' (hs.kp [])) (by simp only [List.length_append, List.length_cons, List.length_nil]; omega)) ?_
  rintro v w5 ⟨rfl, hb5⟩
  refine zS ?_
  exact ⟨_, rfl, rfl, fin (hb2.trans (hb5.since (hs.kp []))) (by rw [hto]; simp)⟩
 rw [if_neg (by rw [hbi]; simp)] at hto
 refine zS ?_
 refine Zl (v := I (Jc7 k)) rfl hB1 ?_
 refine zS ?_
 refine r_if rfl (fun h22 => ?_) (fun h22 => ?_)
 ·-- between two
  have h22 : Jc7 k = 2 := oM
  rw [if_pos h22] at hto
  obtain ⟨x, hx⟩ : ∃ x, ks[0]? = some x := ⟨_, List.getElem?_eq_getElem oM⟩
  obtain ⟨y, hy⟩ : ∃ y, ks[1]? = some y := ⟨_, List.getElem?_eq_getElem oM⟩
  have hkx : t.kids = [x.2, y.2] := by
   rw [← hks]
   match ks, hx, hy, (show ks.length = 2 by omega) with
   | [u, v], hx, hy, _ => simp at hx hy; subst hx; subst hy; rfl
  obtain ⟨b0, off, rfl, hcell⟩ := hkcell 0 x hx
  obtain ⟨b0', off', he, hcell'⟩ := hkcell 1 y hy
  cases he
  obtain ⟨ih1, hg1⟩ := hkid x (List.mem_of_getElem? hx)
  obtain ⟨ih2, hg2⟩ := hkid y (List.mem_of_getElem? hy)
  have hTx := hK x (List.mem_of_getElem? hx)
  have hTy := hK y (List.mem_of_getElem? hy)
  rw [hkx] at hto
  have hto : Jc8 t = brkM x.2 ++ ([32] ++ Ja3 k ++ [32]) ++ brkM y.2 := hto
  have hlen := congrArg List.length hto
  simp only [List.length_append, List.length_cons, List.length_nil] at hlen
  refine zS ?_
  refine Zl (v := .slice (some ⟨b0, off, none⟩) ks.length bcap) rfl hB1 ?_
  refine zo rfl rfl (by simp only [AllP]; omega) ?_
  refine Zo (v := ptr x.1) rfl (hcell _ hb1.kp) ?_
  refine Jq3 (first := #[]) (cap := #[ptr b3]) (kid_ok ih1 hP hTx hg1 hb1 h31 hne oM) rfl rfl rfl rfl ?_
  rintro v w2 ⟨rfl, hb2⟩
  have hB2 := hb2.kp.b0 hB
  have h32 := hb2.blk h31 hne dE
  refine zS ?_
  refine Ja9 ?_
  refine Jd8 (α := Unit) [0, 3, 4] (fun _ => [ptr p, ptr b3, .func (.func 73) #[] #[ptr b3]]) (fun _ W' => BdTo w0 w1 b (l ++ brkM x.2 ++ ([32] ++ Ja3 k ++ [32])) W') ?_ ?_
  ·refine Je9 Ja0 rfl kR kR ?_
   refine Zq rfl (fun _ hs => (Sm.blk hs h32).cell rfl) ?_
   refine zQ ?_
   refine Zq (v := S (Ja3 k)) rfl (fun _ hs => (Sm.blk hs hB2).cell rfl) ?_
   refine yo rfl rfl (by simp only [AllP, List.length_append, List.length_cons, List.length_nil]; omega) ?_
   refine yn ?_
   intro w' hs
   refine Zc (Je6 (hb2.kp' (hs.kp [])) ([32] ++ Ja3 k ++ [32]) (by simp only [List.length_append, List.length_cons, List.length_nil]; omega)) ?_
   rintro v w3 ⟨rfl, hb3⟩
   exact Ja6 ⟨(), rfl, hb2.trans (hb3.since (hs.kp []))⟩
  rintro _ e3 w3 hb3
  have hB3 := hb3.kp.b0 hB
  refine zS ?_
  refine Zl (v := .slice (some ⟨b0, off, none⟩) ks.length bcap) rfl hB3 ?_
  refine zo rfl rfl (by simp only [AllP]; omega) ?_
  refine Zo (v := ptr y.1) rfl (hcell' _ hb3.kp) ?_
  refine Jq3 (first := #[]) (cap := #[ptr b3]) (kid_ok ih2 hP hTy hg2 hb3.toBdAt (hb3.blk h31 hne dE) hne (by simp only [List.length_append, List.length_cons, List.length_nil]; omega)) rfl rfl rfl rfl ?_
  rintro v w4 ⟨rfl, hb4⟩
  refine zS ?_
  exact ⟨_, rfl, rfl, fin (hb3.trans hb4) (by rw [hto]; simp)⟩
 rw [if_neg oM] at hto
 have hlen := congrArg List.length hto
 simp only [List.length_append] at hlen
 refine zS ?_
 refine Ja9 ?_
 refine Jd8 (α := Unit) [0, 3, 4] (fun _ => [ptr p, ptr b3, .func (.func 73) #[] #[ptr b3]]) (fun _ W' => BdTo w0 w1 b (l ++ Ja3 k) W') ?_ ?_
 ·refine Je9 Ja0 rfl kR kR ?_
  refine Zq rfl (fun _ hs => (Sm.blk hs h31).cell rfl) ?_
  refine zQ ?_
  refine Zq (v := S (Ja3 k)) rfl (fun _ hs => (Sm.blk hs hB1).cell rfl) ?_
  refine yn ?_
  intro w' hs
  refine Zc (Je6 (hb1.kp' (hs.kp [])) (Ja3 k) oM) ?_
  rintro v w3 ⟨rfl, hb3⟩
  exact Ja6 ⟨(), rfl, hb3.since (hs.kp [])⟩
 rintro _ e2 w2 hb2
 have hB2 := hb2.kp.b0 hB
 have h32 := hb2.blk h31 hne dE
 refine zL hB2 ?_
 refine Jd8 (α := Unit) [0, 3, 4] (fun _ => [ptr p, ptr b3, .func (.func 73) #[] #[ptr b3]]) (fun _ W' => BdTo w0 w1 b (l ++ (Ja3 k ++ (if k = 17 then [32] else []))) W') ?_ ?_
 ·refine r_if rfl (fun h17 => ?_) (fun h17 => ?_)
  ·have h17 : k = 17 := oM
   rw [if_pos h17] at hlen ⊢
   simp only [List.length_cons, List.length_nil] at hlen
   refine zL h32 ?_
   refine Zc (Jm2 hb2.toBdAt (by simp only [List.length_append]; omega) 32) ?_
   rintro v w3 ⟨rfl, hb3⟩
   refine zS ?_
   refine ⟨(), rfl, ?_⟩
   rw [← List.append_assoc]
   exact hb2.trans hb3
  ·rw [if_neg oM, List.append_nil]
   refine zS ?_
   exact ⟨(), rfl, hb2⟩
 rintro _ e3 w3 hb3
 have hB3 := hb3.kp.b0 hB
 refine zS ?_
 refine Zl (v := .slice bad ks.length bcap) rfl hB3 ?_
 refine zS ?_
 have hfl : ∀ i, ((ks.take i).flatMap fun y => brkM y.2).length ≤ (t.kids.flatMap brkM).length := by
  intro i
  rw [← hks, List.flatMap_map]
  conv => rhs; rw [← List.take_append_drop i ks]
  rw [List.flatMap_append, List.length_append]
  exact Nat.le_add_right _ _
 refine Jb4 (α := Nat) [0, 3, 4, 28, 29, 30] (fun i => [ptr p, ptr b3, .func (.func 73) #[] #[ptr b3], .slice bad ks.length bcap, I ks.length, I i]) (fun i W' => i ≤ ks.length ∧ BdTo w0 w1 b (l ++ (Ja3 k ++ (if k = 17 then [32] else [])) ++ (ks.take i).flatMap fun y => brkM y.2) W') (fun i => ks.length - i) 0 rfl ⟨oM, by simpa using hb3⟩ ?_
 rintro i e4 W4 ⟨hi, hbW⟩
 refine zS ?_
 refine r_if rfl (fun hc => ?_) (fun hc => ?_)
 ·have hi2 : i < ks.length := oM
  obtain ⟨x, hx⟩ : ∃ x, ks[i]? = some x := ⟨_, List.getElem?_eq_getElem hi2⟩
  obtain ⟨b0, off, rfl, hcell⟩ := hkcell i x hx
  have hj1 := flat_take ks (fun y => brkM y.2) hx
  have hj2 := hfl (i + 1)
  rw [hj1, List.length_append] at hj2
  obtain ⟨ih1, hg1⟩ := hkid x (List.mem_of_getElem? hx)
  have hTx := hK x (List.mem_of_getElem? hx)
  refine zS ?_
  refine Zo (v := ptr x.1) rfl (by rw [Ja2]; exact hcell _ hbW.kp) ?_
  refine zS ?_
  refine Jq3 (first := #[]) (cap := #[ptr b3]) (kid_ok ih1 hP hTx hg1 hbW.toBdAt (hbW.blk h31 hne dE) hne (by simp only [List.length_append]; omega)) rfl rfl rfl rfl ?_
  rintro v w5 ⟨rfl, hb5⟩
  refine zS ?_
  refine ⟨i + 1, rfl, ⟨oM, ?_⟩, oM⟩
  rw [hj1, ← List.append_assoc]
  exact hbW.trans hb5
 ·have hi3 : i = ks.length := oM
  subst hi3
  have e : (ks.flatMap fun y => brkM y.2) = t.kids.flatMap brkM := by rw [← hks, List.flatMap_map]
  rw [List.take_length, e] at hbW
  refine zS ?_
  exact ⟨_, rfl, rfl, fin hbW (by rw [hto]; simp)⟩
end
end Go.Vc
