/- Parts of a proof. -/
import Derived.Test.YtkgngbpkiklckaaGreatDoorQClQExact4
import Derived.Laws.BytesArg
import Derived.Test.YtkgngbpkiklckaaGreatDoorChecked
set_option maxHeartbeats 12800000
namespace Go.Vc
open Go
variable {P : Program} {n : Nat} {a : Act} {e : Env} {w : World} {K : Jc0} {X : List (Nat × Jc0)} {R : Jc0} {all : List Oper} {G : List Nat} {ro : Ro}
abbrev ptr (p : Nat) : Value := .pointer (some ⟨p, 0, none⟩)
def OwnS (w : World) (T : TypeId) (size : Nat) (ad : Option Addr) (n cap : Nat) (xs : List Value) : Prop :=
 xs.length = n * size ∧
 match ad with
 | none => n = 0 ∧ cap = 0
 | some ad => ad.off = 0 ∧ ad.spot = none ∧ n ≤ cap ∧ cap ≤ maxLen ∧ ∃ junk, Blk w ad.block (xs ++ junk) T ∧ (xs ++ junk).length = cap * size
def Ja1 : Option Addr → List Nat
 | none => []
 | some ad => [ad.block]
theorem Jd6 (w : World) (T : TypeId) (size : Nat) : OwnS w T size none 0 0 [] := ⟨sI, rfl, rfl⟩
theorem OwnS.keep {w w' : World} {T : TypeId} {size : Nat} {ad : Option Addr} {n cap : Nat} {xs : List Value} (h : OwnS w T size ad n cap xs) (hk : ∀ b, b ∈ Ja1 ad → w'.heap[b]? = w.heap[b]?) : OwnS w' T size ad n cap xs := by
 refine ⟨h.1, ?_⟩
 cases ad with
 | none => exact h.2
 | some ad =>
  obtain ⟨h1, h2, h3, h4, junk, h5, h6⟩ := h.2
  exact ⟨h1, h2, h3, h4, junk, by unfold Blk; rw [hk _ (by simp [Ja1])]; exact h5, h6⟩
theorem OwnS.lt {T : TypeId} {size : Nat} {ad : Option Addr} {n cap : Nat} {xs : List Value} (h : OwnS w T size ad n cap xs) : ∀ b, b ∈ Ja1 ad → b < w.heap.size := by
 intro b hb
 cases ad with
 | none => simp [Ja1] at hb
 | some ad =>
  simp [Ja1] at hb
  subst hb
  obtain ⟨_, _, _, _, junk, h5, _⟩ := h.2
  exact h5.lt
theorem OwnS.sm {w w' : World} {T : TypeId} {size : Nat} {ad : Option Addr} {n cap : Nat} {xs : List Value} (h : OwnS w T size ad n cap xs) (hs : Sm w w') : OwnS w' T size ad n cap xs := h.keep fun b _ => by rw [hs.heap]
theorem OwnS.upd {w w' : World} {T : TypeId} {size : Nat} {ad : Option Addr} {n cap : Nat} {xs : List Value} (h : OwnS w T size ad n cap xs) {b : Nat} {o : Obj} (hu : Upd w b o w') (hne : b ∉ Ja1 ad) : OwnS w' T size ad n cap xs :=
 h.keep fun c hc => hu.other c (fun e => hne (e ▸ hc))
theorem OwnS.kp {w w' : World} {T : TypeId} {size : Nat} {ad : Option Addr} {n cap : Nat} {xs : List Value} (h : OwnS w T size ad n cap xs) {S : List Nat} (hk : Kp S w w') (hne : ∀ b, b ∈ Ja1 ad → b ∉ S) : OwnS w' T size ad n cap xs :=
 h.keep fun c hc => hk.at_ c (h.lt c hc) (hne c hc)
theorem OwnS.get {T : TypeId} {size : Nat} {ad : Addr} {n cap : Nat} {xs : List Value} (h : OwnS w T size (some ad) n cap xs) {i : Nat} {v : Value} (hv : xs[i]? = some v) : w.cell? ⟨ad.block, i, none⟩ = some v := by
 obtain ⟨_, _, _, _, junk, h5, _⟩ := h.2
 exact h5.cell (by rw [List.getElem?_append_left (List.getElem?_eq_some_iff.1 hv).1]; exact hv)
def Ja7 (w : World) (ad : Option Addr) (xs : List Value) : Prop :=
 match ad with
 | none => xs = []
 | some ad => ∀ i v, xs[i]? = some v → w.cell? (ad.add i) = some v
theorem Ja7.at_ {w : World} {ad : Option Addr} {xs : List Value} (h : Ja7 w ad xs) (hne : 0 < xs.length) : ∃ b off, ad = some ⟨b, off, none⟩ ∧ b < w.heap.size ∧ ∀ i v, xs[i]? = some v → w.cell? ⟨b, off + i, none⟩ = some v := by
 cases ad with
 | none => have : xs = [] := h; subst this; simp at hne
 | some ad =>
  obtain ⟨b, off, spot⟩ := ad
  have h0 := h 0 xs[0] (by simp [hne])
  have hadd : Addr.add ⟨b, off, spot⟩ 0 = ⟨b, off, spot⟩ := rfl
  rw [hadd] at h0
  have hs : spot = none := by
   unfold World.cell? at h0
   cases spot with
   | none => rfl
   | some k =>
    dsimp only at h0
    split at h0 <;> simp at h0
  subst hs
  refine ⟨b, off, rfl, ?_, fun i v hv => by have := h i v hv; rwa [Jc1] at this⟩
  unfold World.cell? at h0
  cases hb : w.heap[b]? with
  | none => simp [hb] at h0
  | some o => exact (Array.getElem?_eq_some_iff.1 hb).1
theorem Ja7.mk {w : World} {b off : Nat} {xs : List Value} (h : ∀ i v, xs[i]? = some v → w.cell? ⟨b, off + i, none⟩ = some v) : Ja7 w (some ⟨b, off, none⟩) xs := fun i v hv => by rw [Jc1]; exact h i v hv
theorem Ja7.kp {w w' : World} {ad : Option Addr} {xs : List Value} (h : Ja7 w ad xs) {Q : List Nat} (hk : Kp Q w w') (hd : ∀ b, b ∈ Ja1 ad → b ∉ Q) : Ja7 w' ad xs := by
 cases ad with
 | none => exact h
 | some ad =>
  intro i v hv
  obtain ⟨b, off, he, hb, hc⟩ := h.at_ (by have := (List.getElem?_eq_some_iff.1 hv).1; omega)
  simp only [Option.some.injEq] at he
  subst he
  rw [Jc1]
  rw [← hc i v hv]
  exact World.cell?_of_block (hk.at_ _ hb (hd _ (by simp [Ja1])))
theorem run_append {t ty T : TypeId} {td : TypeDesc} {tn : String} {size tby : Nat} {thp : Bool} {tal tfa : Nat} {z : Value} {tcm : Bool} {tms : Array Method}
  (hu : P.underlying t = some (.slice T)) (hi : P.info? T = some ⟨td, tn, size, tby, thp, tal, tfa, some z, tcm, tms⟩) (hzs : z.cells.size = size) (hsz : 0 < size)
  {ad : Option Addr} {n cap : Nat} {xs : List Value} (ho : OwnS w T size ad n cap xs) {ay : Addr} {m cy : Nat} {news : List Value} (hl : news.length = m * size) (hm0 : 0 < m) (hn : ∀ j v, news[j]? = some v → w.cell? (ay.add j) = some v) (h1 : ∀ v ∈ news, v.oneCell' = true)
  (h63 : n + m ≤ maxLen) (hby : (n + m) * tby ≤ 140737488355328) :
  ∃ ad' cap' w', (Builtin.append_ #[t, t] ty #[.slice ad n cap, .slice (some ay) m cy]).run P w = .ok (.slice ad' (n + m) cap') w' ∧ OwnS w' T size ad' (n + m) cap' (xs ++ news) ∧ Kp (Ja1 ad) w w' ∧
   (∀ b, b ∈ Ja1 ad' → b ∈ Ja1 ad ∨ w.heap.size ≤ b) ∧ ad' ≠ none := by
 have hlen : (xs ++ news).length = (n + m) * size := by rw [List.length_append, ho.1, hl, Nat.add_mul]
 have hsmall : n + m ≤ 9223372036854775807 := by simp only [maxLen] at h63; omega
 have grow : ∀ old, old < n + m → OwnS (w.drew.alloc (.cells (xs.toArray ++ news.toArray ++ Builtin.zeroCells z.cells (grownCap w (n + m) old T - (n + m))) T)) T size (some ⟨w.heap.size, 0, none⟩) (n + m) (grownCap w (n + m) old T) (xs ++ news) ∧
   Kp (Ja1 ad) w (w.drew.alloc (.cells (xs.toArray ++ news.toArray ++ Builtin.zeroCells z.cells (grownCap w (n + m) old T - (n + m))) T)) := by
  intro old hold
  have hge := grownCap_ge w (n + m) old T
  have hcm := grownCap_le_maxLen w (n + m) old T h63
  have hup := Je2 w.drew (.cells (xs.toArray ++ news.toArray ++ Builtin.zeroCells z.cells (grownCap w (n + m) old T - (n + m))) T)
  have e1 : xs.toArray ++ news.toArray ++ Builtin.zeroCells z.cells (grownCap w (n + m) old T - (n + m)) = ⟨xs ++ news ++ (Builtin.zeroCells z.cells (grownCap w (n + m) old T - (n + m))).toList⟩ := by apply Array.ext'; simp
  rw [e1] at hup ⊢
  refine ⟨⟨hlen, rfl, rfl, hge, hcm, _, hup.at_, ?_⟩, hup.drew.kp _ (.inr lR)⟩
  simp only [List.length_append, Array.length_toList, size_zeroCells, hzs, ho.1, hl, ← Nat.add_mul]
  congr 1
  omega
 cases ad with
 | none =>
  obtain ⟨rfl, rfl⟩ := ho.2
  have hx : xs = [] := List.eq_nil_of_length_eq_zero (by simpa using ho.1)
  subst hx
  have hg := grow 0 oM
  have hr := run_append_nil (P := P) w t ty T _ z hu hi rfl ay m cy news hl hn hm0 oM (by have hb := hby; simp only [Nat.zero_add] at hb; exact Nat.le_trans hb oM)
  simp only [Nat.zero_add, List.nil_append, Array.empty_append] at hg ⊢
  exact ⟨_, _, _, hr, hg.1, hg.2, fun b hb => by simp [Ja1] at hb; right; omega, sI⟩
 | some ad =>
  obtain ⟨b, off, spot⟩ := ad
  obtain ⟨ho0, hsp, hnc, hcm, junk, hB, hjl⟩ := ho.2
  dsimp only at ho0 hsp hB
  subst ho0 hsp
  by_cases hroom : n + m ≤ cap
  ·have hfit : n * size + news.length ≤ (⟨xs ++ junk⟩ : Array Value).size := by
    show _ ≤ (xs ++ junk).length
    rw [hjl, hl, ← Nat.add_mul]; exact Nat.mul_le_mul_right _ hroom
   have hr := run_append_room (P := P) w t ty T _ hu hi b n cap ⟨xs ++ junk⟩ hB ay m cy news hl hn h1 hroom hfit
   have hnew : (List.take (n * size) (xs ++ junk) ++ news ++ List.drop (n * size + news.length) (xs ++ junk)).toArray = ⟨xs ++ news ++ junk.drop news.length⟩ := by
    apply Array.ext'
    show _ = xs ++ news ++ junk.drop news.length
    rw [← ho.1, List.take_left, List.drop_append, List.drop_of_length_le oM]
    simp
   rw [hnew] at hr
   refine ⟨_, _, _, hr, ⟨hlen, rfl, rfl, hroom, hcm, junk.drop news.length, setRow_heap w b _ _ T _ hB, ?_⟩, (Ql1 hB).kp _ (.inl (by simp [Ja1])), fun c hc => .inl hc, sI⟩
   have h2 : news.length ≤ junk.length := by
    have h3 : n * size + news.length ≤ (xs ++ junk).length := hfit
    rw [List.length_append, ho.1] at h3
    omega
   rw [List.length_append] at hjl
   simp only [List.length_append, List.length_drop]
   omega
  ·have holds : ∀ j v, xs[j]? = some v → w.cell? ((⟨b, 0, none⟩ : Addr).add j) = some v := fun j v hv => by
    rw [Jc1, Nat.zero_add]; exact hB.cell (by rw [List.getElem?_append_left (List.getElem?_eq_some_iff.1 hv).1]; exact hv)
   have hr := run_append_grow (P := P) w t ty T _ z hu hi rfl ⟨b, 0, none⟩ n cap xs ho.1 holds ay m cy news hl hn oM oM (growslice_fits oM hby)
   have hg := grow cap oM
   exact ⟨_, _, _, hr, hg.1, hg.2, fun c hc => by simp [Ja1] at hc; right; omega, sI⟩
section
variable {dst : Option Tmp} {ty : TypeId} {pos : String} {after : Array Edge} {g : Option (Nat × Bool)} {l : List Oper} {t : TypeId} {x y : Operand}
theorem Jo0 {T : TypeId} {td : TypeDesc} {tn : String} {size tby : Nat} {thp : Bool} {tal tfa : Nat} {z : Value} {tcm : Bool} {tms : Array Method}
  {ad : Option Addr} {k cap : Nat} {xs : List Value} {ay : Addr} {m cy : Nat} (news : List Value)
  (hx : ev e x = .slice ad k cap) (hy : ev e y = .slice (some ay) m cy) (ho : OwnS w T size ad k cap xs) (hn : ∀ j v, news[j]? = some v → w.cell? (ay.add j) = some v)
  (hu : P.underlying t = some (.slice T)) (hi : P.info? T = some ⟨td, tn, size, tby, thp, tal, tfa, some z, tcm, tms⟩) (hzs : z.cells.size = size) (hsz : 0 < size)
  (hl : news.length = m * size) (hm0 : 0 < m) (h1 : ∀ v ∈ news, v.oneCell' = true) (h63 : k + m ≤ maxLen) (hby : (k + m) * tby ≤ 140737488355328) (hd : dOk n dst = true) (hm : may all G e g = some true)
  (kk : ∀ ad' cap' w', OwnS w' T size ad' (k + m) cap' (xs ++ news) → Kp (Ja1 ad) w w' → (∀ b, b ∈ Ja1 ad' → b ∈ Ja1 ad ∨ w.heap.size ≤ b) → Ops ro P n all G K l (put e dst (.slice ad' (k + m) cap')) w') :
  Ops ro P n all G K (⟨dst, .call ⟨.builtin .append, #[x, y], #[t, t]⟩, ty, pos, after, g⟩ :: l) e w := by
 obtain ⟨ad', cap', w', hr, h2, h3, h4, _⟩ := run_append (P := P) (ty := ty) (cy := cy) hu hi hzs hsz ho hl hm0 hn h1 h63 hby
 refine Jb5 (v := .slice ad' (k + m) cap') (w' := w') hd hm ?_ (kk _ _ _ h2 h3 h4)
 simp only [execOp, resolve, Sem.run_bind, Sem.run_pure, Result.andThen_ok, invoke, builtin, List.map_toArray, List.map_cons, List.map_nil, hx, hy, hr]
theorem Jh3 {T T' : TypeId} {td : TypeDesc} {tn : String} {tby : Nat} {thp : Bool} {tal tfa : Nat} {z : Value} {tcm : Bool} {tms : Array Method}
  {ad : Option Addr} {k cap : Nat} {xs : List Value} {by_ cy : Nat} {v : Value}
  (hx : ev e x = .slice ad k cap) (hy : ev e y = .slice (some ⟨by_, 0, none⟩) 1 cy) (ho : OwnS w T 1 ad k cap xs) (hb : Blk w by_ [v] T')
  (hu : P.underlying t = some (.slice T)) (hi : P.info? T = some ⟨td, tn, 1, tby, thp, tal, tfa, some z, tcm, tms⟩) (hzs : z.cells.size = 1) (h1 : v.oneCell' = true)
  (h63 : k + 1 ≤ maxLen) (hby : (k + 1) * tby ≤ 140737488355328) (hd : dOk n dst = true) (hm : may all G e g = some true)
  (kk : ∀ ad' cap' w', OwnS w' T 1 ad' (k + 1) cap' (xs ++ [v]) → Kp (Ja1 ad) w w' → (∀ b, b ∈ Ja1 ad' → b ∈ Ja1 ad ∨ w.heap.size ≤ b) → Ops ro P n all G K l (put e dst (.slice ad' (k + 1) cap')) w') :
  Ops ro P n all G K (⟨dst, .call ⟨.builtin .append, #[x, y], #[t, t]⟩, ty, pos, after, g⟩ :: l) e w :=
 Jo0 [v] hx hy ho (fun j u hj => by
  match j, hj with
  | 0, hj => simp at hj; subst hj; simp only [Jc1, Nat.zero_add]; exact hb.cell rfl) hu hi hzs oM rfl oM (by simpa using h1) h63 hby hd hm kk
theorem Qa2 {zc : Value} {fs : Array Field} {places : List (Nat × Nat)} {parts : Array (Nat × Operand)} (cs : List Value) (hu : P.underlying t = some (.struct fs)) {i : TypeInfo} (hi : P.info? t = some i) (hz : i.zero = some zc)
  (hp : fs.toList.mapM (fun f => (P.info? f.type).map fun i => (f.offset, i.size)) = some places)
  (hf : Instr.fill (fun j => nthO places j) zc.cells (parts.toList.map fun (j, x) => (j, ev e x)) = some ⟨cs⟩) : (execOp (ev e) ⟨dst, .build t parts, ty, pos, after, g⟩).run P w = .ok (.value (.agg ⟨cs⟩)) w := by
 have hpl : ∀ (fl : List Field) (pl : List (Nat × Nat)), fl.mapM (fun f => (P.info? f.type).map fun i => (f.offset, i.size)) = some pl →
   (fl.mapM (fun f => (do pure (f.offset, ← sizeOf f.type) : Sem (Nat × Nat)))).run P w = .ok pl w := by
  intro fl
  induction fl with
  | nil => intro pl h; simp at h; subst h; simp
  | cons f fl ih =>
   intro pl h
   simp only [List.mapM_cons, Option.bind_eq_bind, Option.pure_def] at h
   cases hfi : P.info? f.type with
   | none => rw [hfi] at h; simp at h
   | some i =>
    rw [hfi] at h
    simp only [Option.map_some, Option.bind_some] at h
    cases hr : fl.mapM (fun f => (P.info? f.type).map fun i => (f.offset, i.size)) with
    | none => rw [hr] at h; simp at h
    | some r =>
     rw [hr] at h
     simp only [Option.bind_some, Option.some.injEq] at h
     subst h
     simp [List.mapM_cons, sizeOf, typeInfo, hfi] at ih ⊢
     rw [ih r hr]
     rfl
 have hpa : (fs.mapM (fun f => (do pure (f.offset, ← sizeOf f.type) : Sem (Nat × Nat)))).run P w = .ok places.toArray w := by
  obtain ⟨fl⟩ := fs
  rw [List.mapM_toArray]
  simp only [Sem.run_map]
  rw [hpl fl places hp]
  rfl
 have hm2 : (Array.map (fun x : Nat × Operand => (x.fst, ev e x.snd)) parts).toList = parts.toList.map fun (j, x) => (j, ev e x) := sI
 have hfn : (fun j : Nat => places.toArray[j]?) = fun j => nthO places j := by funext j; rw [Js8]; simp
 simp only [execOp, Sem.run_bind, Instr.build, zeroValue, typeInfo, run_program, hi, hz, Result.andThen_ok, Sem.run_pure, run_underlying hu, hpa, hm2, hfn, hf]
theorem o_build {zc : Value} {fs : Array Field} {places : List (Nat × Nat)} {parts : Array (Nat × Operand)} (cs : List Value) (hu : P.underlying t = some (.struct fs)) {i : TypeInfo} (hi : P.info? t = some i) (hz : i.zero = some zc)
  (hp : fs.toList.mapM (fun f => (P.info? f.type).map fun i => (f.offset, i.size)) = some places)
  (hf : Instr.fill (fun j => nthO places j) zc.cells (parts.toList.map fun (j, x) => (j, ev e x)) = some ⟨cs⟩) (hd : dOk n dst = true) (hm : may all G e g = some true)
  (k : Ops ro P n all G K l (put e dst (.agg ⟨cs⟩)) w) : Ops ro P n all G K (⟨dst, .build t parts, ty, pos, after, g⟩ :: l) e w :=
 Jb5 hd hm (Qa2 cs hu hi hz hp hf) k
theorem Zb {zc : Value} {fs : Array Field} {places : List (Nat × Nat)} {parts : Array (Nat × Operand)} {i : TypeInfo} (cs : List Value) (k : Ops ro P n all G K l (put e dst (.agg ⟨cs⟩)) w) (hu : P.underlying t = some (.struct fs) := by exact rfl) (hi : P.info? t = some i := by exact rfl) (hz : i.zero = some zc := by exact rfl) (hp : fs.toList.mapM (fun f => (P.info? f.type).map fun i => (f.offset, i.size)) = some places := by exact rfl) (hf : Instr.fill (fun j => nthO places j) zc.cells (parts.toList.map fun (j, x) => (j, ev e x)) = some ⟨cs⟩ := by exact rfl) (hd : dOk n dst = true := by exact rfl) (hm : may all G e g = some true := by exact rfl) : Ops ro P n all G K (⟨dst, .build t parts, ty, pos, after, g⟩ :: l) e w := o_build cs hu hi hz hp hf hd hm k
theorem Jz1 (hd : dOk n dst = true) (hm : may all G e g = some true)
  (k : ∀ b w', b = w.heap.size → Upd w b (.map #[] 0) w' → Ops ro P n all G K l (put e dst (.map (some b))) w') : Ops ro P n all G K (⟨dst, .makeMap t none, ty, pos, after, g⟩ :: l) e w := by
 refine Jb5 (v := .map (some w.heap.size)) (w' := w.alloc (.map #[] 0)) hd hm ?_ (k _ _ rfl (Je2 w _))
 have hr : (Instr.makeMap t none).run P w = .ok (.map (some w.heap.size)) (w.alloc (.map #[] 0)) := rfl
 simp only [execOp, Sem.run_bind, Option.map_none, hr, Result.andThen_ok, Sem.run_pure]
theorem Jb8 {empty : Bool} {kt : TypeId} {d : TypeDesc} {v : Value} (hk : P.underlying kt = some d) (hd : d = .string ∨ ∃ k, d = .int k) : (Instr.checkKey empty 10000 kt v).run P w = .ok () w := by
 show (Instr.checkKey empty (9999 + 1) kt v).run P w = _
 unfold Instr.checkKey
 rw [Sem.run_bind, run_underlying hk]
 rcases hd with rfl | ⟨k, rfl⟩ <;> rfl
theorem o_lookup2 {kt et : TypeId} {d : TypeDesc} {z : Value} {i : TypeInfo} {es : Array MapEntry} {clock m : Nat} {key : Value} (r : Option (Nat × Value)) (hx : ev e x = .map (some m)) (hy : ev e y = key) (hb : w.heap[m]? = some (.map es clock))
  (hr : Instr.findNow d key es.toList 0 = some r) (hu : P.underlying t = some (.map kt et)) (hk : P.underlying kt = some d) (hdd : d = .string ∨ ∃ k, d = .int k) (hi : P.info? et = some i) (hz : i.zero = some z) (hd : dOk n dst = true) (hm : may all G e g = some true)
  (k : Ops ro P n all G K l (put e dst (match r with | some (_, v) => .tuple #[v, .bool true] | none => .tuple #[z, .bool false])) w) : Ops ro P n all G K (⟨dst, .lookup t x y true, ty, pos, after, g⟩ :: l) e w := by
 refine Jb5 (w' := w) hd hm ?_ k
 have hgo : (getObj m).run P w = .ok (.map es clock) w := by simp [getObj, Sem.run, hb]
 have hfk : (Instr.findKey kt key es.toList).run P w = .ok r w := by
  simp only [Instr.findKey, Sem.run_bind, run_underlying hk, Result.andThen_ok, hr, Sem.run_pure]
 cases r with
 | none => simp [execOp, Instr.lookup, hx, hy, run_underlying hu, hgo, Jb8 hk hdd, hfk, zeroValue, typeInfo, hi, hz]
 | some p => simp [execOp, Instr.lookup, hx, hy, run_underlying hu, hgo, Jb8 hk hdd, hfk]
theorem Jh4 {b : Nat} {o o' : Obj} (hb : w.heap[b]? = some o) : Upd w b o' { w with heap := w.heap.setIfInBounds b o' } := by
 have hlt : b < w.heap.size := (Array.getElem?_eq_some_iff.1 hb).1
 refine ⟨rfl, rfl, rfl, by simp [hlt], fun k hk => ?_, sI, by simp; omega⟩
 simp only [Array.getElem?_setIfInBounds]
 rw [if_neg (fun h => hk h.symm)]
end
section
theorem OwnS.read {T : TypeId} {ad : Option Addr} {n cap : Nat} {xs : List Value} (h : OwnS w T 1 ad n cap xs) : Ja7 w ad xs := by
 cases ad with
 | none => have := h.2.1; have h1 := h.1; subst this; simp at h1; exact h1
 | some ad =>
  obtain ⟨b, off, spot⟩ := ad
  obtain ⟨h1, h2, _⟩ := h.2
  cases h1; cases h2
  exact Ja7.mk fun i v hv => by rw [Nat.zero_add]; exact h.get hv
theorem OwnS.take {T : TypeId} {ad : Option Addr} {n cap g : Nat} {xs : List Value} (h : OwnS w T 1 ad n cap xs) (hg : g ≤ n) : OwnS w T 1 ad g cap (xs.take g) := by
 have hl := h.1
 refine ⟨by simp; omega, ?_⟩
 cases ad with
 | none => have := h.2; simp only at this ⊢; omega
 | some ad =>
  obtain ⟨h1, h2, h3, h4, junk, h5, h6⟩ := h.2
  refine ⟨h1, h2, oM, h4, xs.drop g ++ junk, ?_, ?_⟩
  ·rw [← List.append_assoc, List.take_append_drop]; exact h5
  ·rw [← List.append_assoc, List.take_append_drop]; exact h6
theorem OwnS.le_cap {T : TypeId} {ad : Option Addr} {n cap size : Nat} {xs : List Value} (h : OwnS w T size ad n cap xs) : n ≤ cap := by
 cases ad with
 | none => have := h.2; simp only at this; omega
 | some ad => exact h.2.2.2.1
theorem Ja7.blk {b : Nat} {L : List Value} {T : TypeId} (h : Blk w b L T) : Ja7 w (some ⟨b, 0, none⟩) L := Ja7.mk fun i v hv => by rw [Nat.zero_add]; exact h.cell hv
theorem Ja7.take {ad : Option Addr} {xs : List Value} (h : Ja7 w ad xs) (n : Nat) : Ja7 w ad (xs.take n) := by
 cases ad with
 | none => have : xs = [] := h; subst this; simp [Ja7]
 | some a => intro i v hv; exact h i v (by
   rw [List.getElem?_take] at hv
   split at hv
   ·exact hv
   ·cases hv)
structure NewS (w : World) (T : TypeId) (w' : World) (ad : Option Addr) (n cap : Nat) (xs : List Value) : Prop where
 own : OwnS w' T 1 ad n cap xs
 kp : Kp [] w w'
 new : ∀ b, b ∈ Ja1 ad → w.heap.size ≤ b
theorem NewS.read {T : TypeId} {w' : World} {ad : Option Addr} {n cap : Nat} {xs : List Value} (h : NewS w T w' ad n cap xs) : Ja7 w' ad xs := h.own.read
theorem NewS.since {T : TypeId} {ad : Option Addr} {n cap : Nat} {xs : List Value} {w0 w' : World} (h : NewS w T w' ad n cap xs) (k : Kp [] w0 w) : NewS w0 T w' ad n cap xs := ⟨h.own, k.trans h.kp, fun b hb => Nat.le_trans k.size (h.new b hb)⟩
theorem NewS.push {w' w2 w3 : World} {T : TypeId} {ad ad' : Option Addr} {n cap cap' : Nat} {xs ys : List Value} (h : NewS w T w' ad n cap xs) (k : Kp [] w' w2) (ho : OwnS w3 T 1 ad' (n + 1) cap' ys) (kp : Kp (Ja1 ad) w2 w3) (hnew : ∀ b, b ∈ Ja1 ad' → b ∈ Ja1 ad ∨ w2.heap.size ≤ b) : NewS w T w3 ad' (n + 1) cap' ys :=
 ⟨ho, (h.kp.trans k).since kp h.new, fun b hb => by
  rcases hnew b hb with h1 | h1
  ·exact h.new b h1
  ·have := h.kp.size; have := k.size; omega⟩
end
end Go.Vc

namespace Go.Vc
open Go Go.Proofs
set_option maxRecDepth 20000
section
theorem Ja0 : Tryz.prog.follows .mixedOrders = true := by kernel_rfl
end
end Go.Vc
namespace Go.Vc
open Go
variable {P : Program} {n : Nat} {a : Act} {e : Env} {w : World} {K : Jc0} {X : List (Nat × Jc0)} {R : Jc0} {all : List Oper} {G : List Nat} {ro : Ro}
abbrev yv (l : Nat) : Value := .func (.yield l) #[] #[]
def YieldR (P : Program) (l : Nat) (vs : List Value) (w : World) (R : Bool → World → Prop) : Prop :=
 ∃ fn tmps assign body, (Instr.yield l ⟨vs⟩).run P w = .ok (.round l fn tmps assign body) w ∧ RoundIn (FW Ro.no) 0 P l fn tmps assign body w (fun x w' => ∃ b, x = .returned (.bool b) ∧ R b w')
theorem YieldR.mono {l : Nat} {vs : List Value} {R R' : Bool → World → Prop} (h : YieldR P l vs w R) (hr : ∀ b w', R b w' → R' b w') : YieldR P l vs w R' :=
 let ⟨fn, tmps, assign, body, h1, h2⟩ := h
 ⟨fn, tmps, assign, body, h1, h2.mono fun _ _ ⟨b, hb, r⟩ => ⟨b, hb, hr _ _ r⟩⟩
def isBook : Obj → Bool
 | .loop _ => true
 | .deferred _ => true
 | _ => false
structure Nc (B : Nat) (w w' : World) : Prop where
 os : w'.os = w.os
 tape : w'.tape = w.tape
 output : w'.output = w.output
 size : w.heap.size ≤ w'.heap.size
 at_ : ∀ k o, w.heap[k]? = some o → (k < B ∨ isBook o = false) → w'.heap[k]? = some o
theorem Nc.refl (B : Nat) (w : World) : Nc B w w := ⟨rfl, rfl, rfl, lR, fun _ _ h _ => h⟩
theorem Nc.trans {B : Nat} {w1 w2 w3 : World} (h : Nc B w1 w2) (k : Nc B w2 w3) : Nc B w1 w3 :=
 ⟨k.os.trans h.os, k.tape.trans h.tape, k.output.trans h.output, Nat.le_trans h.size k.size, fun i o hi ho => k.at_ i o (h.at_ i o hi ho) ho⟩
theorem Nc.blk {B : Nat} {w w' : World} (h : Nc B w w') {b : Nat} {l : List Value} {T : TypeId} (k : Blk w b l T) : Blk w' b l T := h.at_ b _ k (.inr rfl)
theorem Nc.kp {B : Nat} {S : List Nat} {w0 w w' : World} (h : Nc B w w') (k : Kp S w0 w) (hB : w0.heap.size ≤ B) : Kp S w0 w' :=
 ⟨h.os.trans k.os, h.tape.trans k.tape, h.output.trans k.output, Nat.le_trans k.size h.size, fun i hi hS => by
  have h1 := k.at_ i hi hS
  rw [← h1]
  have hlt : i < w.heap.size := Nat.lt_of_lt_of_le hi k.size
  have h2 : w.heap[i]? = some w.heap[i] := by simp [hlt]
  rw [h2]
  exact h.at_ i _ h2 (.inl oM)⟩
theorem Nc.own {B : Nat} {w w' : World} (h : Nc B w w') {T : TypeId} {size : Nat} {ad : Option Addr} {n cap : Nat} {xs : List Value} (k : OwnS w T size ad n cap xs) : OwnS w' T size ad n cap xs := by
 refine ⟨k.1, ?_⟩
 cases ad with
 | none => exact k.2
 | some ad =>
  obtain ⟨h1, h2, h3, h4, junk, h5, h6⟩ := k.2
  exact ⟨h1, h2, h3, h4, junk, h.blk h5, h6⟩
theorem Nc.mono {B B' : Nat} {w w' : World} (h : Nc B w w') (hb : B' ≤ B) : Nc B' w w' := ⟨h.os, h.tape, h.output, h.size, fun k o hk ho => h.at_ k o hk (ho.imp (fun h => oM) id)⟩
def Iter (P : Program) (f : FuncId) (lb : List Value) (Fp : List Nat) {α : Type} (enc : α → List Value) (xs : List α) (w0 : World) : Prop :=
 (∀ b, b ∈ Fp → b < w0.heap.size) ∧
 ∀ (l : Nat) (w : World) (J : List α → World → Prop) (Jx : List α → World → Prop), w0.heap.size ≤ w.heap.size → (∀ pre w, J pre w → ∀ b, b ∈ Fp → w.heap[b]? = w0.heap[b]?) → (∀ pre w w', J pre w → Kp [] w w' → J pre w') → J [] w →
  (∀ pre x post w, xs = pre ++ x :: post → J pre w → YieldR P l (enc x) w (fun b w' => (b = true ∧ J (pre ++ [x]) w') ∨ (b = false ∧ Jx (pre ++ [x]) w'))) →
  (∀ pre w w', Jx pre w → Kp [] w w' → Jx pre w') →
  Ret P f (yv l :: lb) w (fun _ w' => J xs w' ∨ ∃ pre post, xs = pre ++ post ∧ Jx pre w')
theorem Iter.kp {f : FuncId} {lb : List Value} {Fp : List Nat} {α : Type} {enc : α → List Value} {xs : List α} {w0 w1 : World} (h : Iter P f lb Fp enc xs w0) (hs : w0.heap.size ≤ w1.heap.size) (hk : ∀ b, b ∈ Fp → w1.heap[b]? = w0.heap[b]?) : Iter P f lb Fp enc xs w1 :=
 ⟨fun b hb => Nat.lt_of_lt_of_le (h.1 b hb) hs, fun l w J Jx hw hp => h.2 l w J Jx (Nat.le_trans hs hw) (fun pre w hj b hb => (hp pre w hj b hb).trans (hk b hb))⟩
abbrev MPost := List Nat → Env → World → Prop
section
variable {KM : MPost} {XM : List (Nat × MPost)} {RM : MPost} {ds : List Nat}
structure Keeps (D l : Nat) (r : Loop) (Fp : List Nat) (w W : World) : Prop where
 loop : W.heap[l]? = some (.loop r)
 shut : W.heap[D]? = some (.deferred (some []))
 priv : ∀ b, b ∈ Fp → W.heap[b]? = w.heap[b]?
theorem Keeps.upd {D l : Nat} {r : Loop} {Fp : List Nat} {w W W' : World} (h : Keeps D l r Fp w W) {b : Nat} {o : Obj} (hu : Upd W b o W') (h1 : b ≠ l) (h2 : b ≠ D) (h3 : b ∉ Fp) : Keeps D l r Fp w W' :=
 ⟨by rw [hu.other l (Ne.symm h1)]; exact h.loop, by rw [hu.other D (Ne.symm h2)]; exact h.shut, fun c hc => by rw [hu.other c (fun e => h3 (e ▸ hc))]; exact h.priv c hc⟩
theorem Keeps.kp {D l : Nat} {r : Loop} {Fp : List Nat} {w W W' : World} (h : Keeps D l r Fp w W) {S : List Nat} (hF : ∀ b, b ∈ Fp → b < W.heap.size) (hk : Kp S W W') (h1 : l ∉ S) (h2 : D ∉ S) (h3 : ∀ b, b ∈ Fp → b ∉ S) : Keeps D l r Fp w W' :=
 ⟨by rw [hk.at_ l (Array.getElem?_eq_some_iff.1 h.loop).1 h1]; exact h.loop, by rw [hk.at_ D (Array.getElem?_eq_some_iff.1 h.shut).1 h2]; exact h.shut, fun c hc => by rw [hk.at_ c (hF c hc) (h3 c hc)]; exact h.priv c hc⟩
end
end Go.Vc

