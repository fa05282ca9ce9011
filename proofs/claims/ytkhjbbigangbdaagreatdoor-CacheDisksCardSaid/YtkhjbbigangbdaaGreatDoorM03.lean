/- A part of the proof. -/
import Derived.Test.YtkhjbbigangbdaaGreatDoorM02
set_option linter.all false
namespace Go.Xe
open Go
section
variable {α : Place} {S : St} {w : World} {P : Program}
theorem run_newObj (o : Obj) (w : World) : (newObj o).run P w = .ok w.heap.size { w with heap := w.heap.push o } := rfl
theorem newIter_rel {β : Place} {i : Nat} {l : Loc} (h : β i = some l) (h0 : l.off = 0) : VRel β (.pointer (some ⟨i, 0, none⟩)) (.pointer (some ⟨l.blk, 0, none⟩)) := by
 have := VRel.ptr (α := β) i 0 l h
 rw [h0] at this
 exact this
theorem xrange_sound (h : Rel α S w) {t : TypeId} {x x' v : Value} {S' : St} (hx : xrange P S t x = some (v, S')) (hr : VRel α x x') :
 ∃ β w' v', (Instr.range t x').run P w = .ok v' w' ∧ Next α S w β S' w' ∧ VRel β v v' := by
 unfold xrange at hx
 split at hx
 ·rename_i s hu
  cases hx; cases hr
  refine ⟨_, { w with heap := w.heap.push (.stringIter s 0) }, .pointer (some ⟨w.heap.size, 0, none⟩), ?_, Next.new h (.siter s 0) rfl _ 0 0 rfl ⟨rfl, rfl, rfl⟩ ⟨rfl, by simp⟩, newIter_rel (Place.upd_same _ _ _) rfl⟩
  simp only [Instr.range, Sem.run_bind, run_underlying hu, Result.andThen, Sem.run_pure, run_newObj]
 ·rename_i k e m hu
  obtain ⟨l, hl, rfl⟩ := map_inv hr
  split at hx
  ·rename_i es clock ro hg
   cases hx
   obtain ⟨h0, es', hb, hm⟩ := h.mapAt hl hg
   refine ⟨_, { w with heap := w.heap.push (.mapIter (some l.blk) clock #[] clock) }, .pointer (some ⟨w.heap.size, 0, none⟩), ?_, Next.new h (.iter m clock [] clock) rfl _ 0 0 rfl ⟨rfl, rfl, rfl⟩ ⟨rfl, l, h.ext _ _ _ hl, by simp⟩, newIter_rel (Place.upd_same _ _ _) rfl⟩
   simp only [Instr.range, Sem.run_bind, run_underlying hu, Result.andThen, Sem.run_pure, run_newObj, run_getObj hb]
  ·cases hx
 ·cases hx
theorem MRel.filter {p p' : MapEntry → Bool} (hp : ∀ e e' : MapEntry, e.born = e'.born → p e = p' e') : ∀ (es es' : List MapEntry), MRel α es es' → MRel α (es.filter p) (es'.filter p')
 | [], es', h => by
  have : es' = [] := by have := h.1; cases es' <;> simp_all
  subst this
  exact ⟨rfl, fun i a b ha => by simp at ha⟩
 | e :: es, es', h => by
  obtain ⟨e', r', rfl, h1, h2, h3, h4⟩ := h.cons_inv
  have ih := MRel.filter hp es r' h4
  simp only [List.filter_cons, hp e e' h3]
  split
  ·refine ⟨by simp [ih.1], fun i a b ha hb => ?_⟩
   cases i with
   | zero => simp at ha hb; subst ha; subst hb; exact ⟨h1, h2, h3⟩
   | succ i => exact ih.2 i a b (by simpa using ha) (by simpa using hb)
  ·exact ih
theorem MRel.all {p p' : MapEntry → Bool} (hp : ∀ e e' : MapEntry, e.born = e'.born → p e = p' e') : ∀ (es es' : List MapEntry), MRel α es es' → es.all p = es'.all p'
 | [], es', h => by
  have : es' = [] := by have := h.1; cases es' <;> simp_all
  subst this; rfl
 | e :: es, es', h => by
  obtain ⟨e', r', rfl, h1, h2, h3, h4⟩ := h.cons_inv
  simp only [List.all_cons, hp e e' h3, MRel.all hp es r' h4]
theorem iter_write (h : Rel α S w) {r : Nat} {l : Loc} (hl : α r = some l) {e0 : Ent} (hg : S.heap.get r = some e0) (hro : e0.ro = false) (e : Ent) (hero : e.ro = false) (o : Obj)
 (he : EntRel α { w with heap := w.heap.setIfInBounds l.blk o } l e) : Next α S w α (S.put r e) { w with heap := w.heap.setIfInBounds l.blk o } :=
 Next.write h hg hro hl e hero (fun b hb => by simp only [Array.getElem?_setIfInBounds_ne (Ne.symm hb)]) (by simp) ⟨rfl, rfl, rfl⟩ he
theorem MRel.find {p p' : MapEntry → Bool} (hp : ∀ e e', e.born = e'.born → p e = p' e') : ∀ (es es' : List MapEntry), MRel α es es' → ∀ e, es.find? p = some e → ∃ e', es'.find? p' = some e' ∧ VRel α e.key e'.key ∧ VRel α e.val e'.val
 | [], _, _, e, hf => by simp at hf
 | x :: es, es', h, e, hf => by
  obtain ⟨x', r', rfl, h1, h2, h3, h4⟩ := h.cons_inv
  rw [List.find?_cons] at hf ⊢
  rw [← hp x x' h3]
  cases hx : p x with
  | true => rw [hx] at hf; cases hf; exact ⟨x', rfl, h1, h2⟩
  | false => rw [hx] at hf; exact MRel.find hp es r' h4 e hf
theorem xentry_sound (h : Rel α S w) {it it' v : Value} (hx : xentry S it = some v) (hr : VRel α it it') :
 ∃ v', (Instr.entry it').run P w = .ok v' w ∧ VRel α v v' := by
 unfold xentry at hx
 split at hx
 case h_2 => cases hx
 rename_i r
 obtain ⟨l, hl, rfl⟩ := ptr_inv hr
 split at hx
 case h_2 => cases hx
 rename_i m since seen stepped hg
 obtain ⟨l', hl', hent⟩ := h.ent _ _ hg
 rw [hl] at hl'; cases hl'
 obtain ⟨h0, lm, hlm, hb⟩ := hent
 have hget : (getObj l.blk).run P w = .ok (.mapIter (some lm.blk) since seen.toArray stepped) w := by simp [getObj, Sem.run, hb]
 split at hx
 case h_2 => cases hx
 rename_i es clock ro stamp hgm hs
 obtain ⟨h0m, es', hbm, hm⟩ := h.mapAt hlm hgm
 have hgetm : (getObj lm.blk).run P w = .ok (.map es' clock) w := by simp [getObj, Sem.run, hbm]
 split at hx
 case isFalse => cases hx
 rename_i hc
 split at hx
 case h_2 => cases hx
 rename_i e he
 cases hx
 obtain ⟨e', he', hk, hv⟩ := MRel.find (α := α) (p := fun e => e.born == stamp) (p' := fun e => e.born == stamp) (fun e e' hh => by simp [hh]) es es'.toList hm e he
 have hbk : seen.toArray.back? = some stamp := by rw [List.back?_toArray]; exact hs
 have hfd : es'.find? (fun e => e.born == stamp) = some e' := by rw [← Array.find?_toList]; exact he'
 refine ⟨.tuple #[e'.key, e'.val], ?_, LRel.tuple (.cons hk (.cons hv (.nil _)))⟩
 simp only [Instr.entry, h0, Nat.add_zero, Sem.run_bind, hget, Result.andThen, hbk, hgetm]
 subst hc
 simp only [bne_self_eq_false, Bool.false_eq_true, if_false, hfd]
 rfl
theorem xnext_sound (h : Rel α S w) {it it' v : Value} {s : Bool} {ty : TypeId} {S' : St} (hx : xnext S it s = some (v, S')) (hr : VRel α it it') :
 ∃ w' v', (Instr.next it' s ty).run P w = .ok v' w' ∧ Next α S w α S' w' ∧ VRel α v v' := by
 unfold xnext at hx
 split at hx
 case h_2 => cases hx
 rename_i r
 obtain ⟨l, hl, rfl⟩ := ptr_inv hr
 split at hx
 ·rename_i str pos hg
  obtain ⟨l', hl', hent⟩ := h.ent _ _ hg
  rw [hl] at hl'; cases hl'
  obtain ⟨h0, hb⟩ := hent
  have hlt : l.blk < w.heap.size := h.size _ _ hl
  have hget : (getObj l.blk).run P w = .ok (.stringIter str pos) w := by simp [getObj, Sem.run, hb]
  have hsz : str.data.toList.length = str.size := by simp
  split at hx
  ·rename_i hpos
   cases hx
   rw [hsz] at hpos
   refine ⟨_, .tuple #[.bool true, .int .i64 pos, .int .i32 (Utf8.decode str pos).1], ?_, iter_write h hl hg rfl _ rfl (.stringIter str (pos + (Utf8.decode str pos).2)) ⟨h0, by simp [hlt]⟩, ?_⟩
   ·simp only [Instr.next, h0, Nat.add_zero, Sem.run_bind, hget, Result.andThen]
    rw [if_pos hpos]
    simp only [Sem.run_bind]
    have hset : (setObj l.blk (.stringIter str (pos + (Utf8.decode str pos).2))).run P w = .ok () { w with heap := w.heap.setIfInBounds l.blk (.stringIter str (pos + (Utf8.decode str pos).2)) } := by
     simp [setObj, Sem.run, hb]
    rw [hset]
    rfl
   ·exact LRel.tuple (.cons (.bool _) (.cons (.int _ _) (.cons (.int _ _) (.nil _))))
  ·rename_i hpos
   cases hx
   rw [hsz] at hpos
   refine ⟨w, .tuple #[.bool false], ?_, .refl h, LRel.tuple (.cons (.bool _) (.nil _))⟩
   simp only [Instr.next, h0, Nat.add_zero, Sem.run_bind, hget, Result.andThen]
   rw [if_neg hpos]
   rfl
 ·rename_i m since seen last hg
  obtain ⟨l', hl', hent⟩ := h.ent _ _ hg
  rw [hl] at hl'; cases hl'
  obtain ⟨h0, lm, hlm, hb⟩ := hent
  have hlt : l.blk < w.heap.size := h.size _ _ hl
  have hget : (getObj l.blk).run P w = .ok (.mapIter (some lm.blk) since seen.toArray last) w := by simp [getObj, Sem.run, hb]
  split at hx
  case h_2 => cases hx
  rename_i es clock ro hgm
  obtain ⟨h0m, es', hbm, hm⟩ := h.mapAt hlm hgm
  split at hx
  ·cases hx
  rename_i hunsup
  have hempty : es.isEmpty = es'.isEmpty := by
   have := hm.1
   rw [Bool.eq_iff_iff]
   simp only [List.isEmpty_iff_length_eq_zero, Array.isEmpty_iff_size_eq_zero]
   simp at this
   omega
  have hall : (es.all fun e => decide (last ≤ e.born)) = es'.all (·.born ≥ last) := by
   rw [← Array.all_toList]
   exact MRel.all (fun e e' hh => by simp [hh]) _ _ hm
  have hcond : ¬ (!seen.toArray.isEmpty && !es'.isEmpty && es'.all (·.born ≥ last)) = true := by
   rw [← hall, ← hempty]
   simpa using hunsup
  have hleft := MRel.filter (α := α) (p := fun e => !seen.contains e.born) (p' := fun e => !seen.toArray.contains e.born) (fun e e' hh => by simp [hh]) _ _ hm
  have hold := MRel.filter (α := α) (p := fun e => decide (e.born < since)) (p' := fun e => decide (e.born < since)) (fun e e' hh => by simp [hh]) _ _ hleft
  have hnew := MRel.filter (α := α) (p := fun e => !decide (e.born < since)) (p' := fun e => decide (e.born ≥ since)) (fun e e' hh => by rw [hh, Bool.eq_iff_iff]; simp) _ _ hleft
  have a1 : (es'.filter fun e => !seen.toArray.contains e.born).toList = es'.toList.filter (fun e => !seen.toArray.contains e.born) := Array.toList_filter
  have a2 : ((es'.filter fun e => !seen.toArray.contains e.born).filter (·.born < since)).toList = (es'.toList.filter (fun e => !seen.toArray.contains e.born)).filter (fun e => decide (e.born < since)) := by
   rw [Array.toList_filter, a1]
  have a3 : ((es'.filter fun e => !seen.toArray.contains e.born).filter (·.born ≥ since)).toList = (es'.toList.filter (fun e => !seen.toArray.contains e.born)).filter (fun e => decide (e.born ≥ since)) := by
   rw [Array.toList_filter, a1]
  rw [← a2] at hold
  rw [← a3] at hnew
  simp only [] at hx
  have nilOf : ∀ A : Array MapEntry, MRel α [] A.toList → A = #[] := by
   intro A hA
   have := hA.1
   simp at this
   exact Array.eq_empty_of_size_eq_zero this.symm
  split at hx
  ·rename_i e ho hn
   cases hx
   rw [ho] at hold
   rw [hn] at hnew
   have hN := nilOf _ hnew
   obtain ⟨e', r', hO, h1, h2, h3, h4⟩ := hold.cons_inv
   have hr' : r' = [] := by have := h4.1; cases r' <;> simp_all
   subst hr'
   have hO : ((es'.filter fun e => !seen.toArray.contains e.born).filter (·.born < since)) = #[e'] := by apply Array.ext'; exact hO
   refine ⟨_, .tuple #[.bool true, e'.key, e'.val], ?_, iter_write h hl hg rfl _ rfl (.mapIter (some lm.blk) since (seen.toArray.push e'.born) clock) ⟨h0, lm, hlm, by simp [hlt, h3]⟩,
    LRel.tuple (.cons (.bool _) (.cons h1 (.cons h2 (.nil _))))⟩
   simp only [Instr.next, h0, Nat.add_zero, Sem.run_bind, hget, Result.andThen, run_getObj hbm]
   rw [if_neg hcond]
   simp only [hO, hN]
   have hcand : ((if (#[e'] : Array MapEntry).isEmpty = true then #[none] else #[]) ++ Array.map some (#[e'] ++ #[]) : Array (Option MapEntry)) = #[some e'] := by simp
   rw [hcand, Sem.run_bind]
   have hch : (choose (.mapNext (#[some e'] : Array (Option MapEntry)).size)).run P w = .ok 0 w := rfl
   rw [hch]
   simp only [Result.andThen]
   have hget0 : (#[some e'] : Array (Option MapEntry))[0]? = some (some e') := rfl
   simp only [hget0, Sem.run_bind]
   have hset : (setObj l.blk (.mapIter (some lm.blk) since (seen.toArray.push e'.born) clock)).run P w = .ok () { w with heap := w.heap.setIfInBounds l.blk (.mapIter (some lm.blk) since (seen.toArray.push e'.born) clock) } := by
    simp [setObj, Sem.run, hb]
   rw [hset]
   rfl
  ·rename_i ho hn
   cases hx
   rw [ho] at hold
   rw [hn] at hnew
   have hN := nilOf _ hnew
   have hO := nilOf _ hold
   refine ⟨w, .tuple #[.bool false], ?_, .refl h, LRel.tuple (.cons (.bool _) (.nil _))⟩
   simp only [Instr.next, h0, Nat.add_zero, Sem.run_bind, hget, Result.andThen, run_getObj hbm]
   rw [if_neg hcond]
   simp only [hO, hN]
   have hcand : ((if (#[] : Array MapEntry).isEmpty = true then #[none] else #[]) ++ Array.map some (#[] ++ #[]) : Array (Option MapEntry)) = #[none] := by simp
   rw [hcand, Sem.run_bind]
   have hch : (choose (.mapNext (#[none] : Array (Option MapEntry)).size)).run P w = .ok 0 w := rfl
   rw [hch]
   rfl
  ·cases hx
 ·cases hx
theorem iface_inv {t : TypeId} {v u : Value} (h : VRel α (.iface t v) u) : ∃ v', u = .iface t v' ∧ VRel α v v' := by
 cases h with
 | iface _ _ v' h => exact ⟨v', rfl, h⟩
theorem xassert_sound {x x' v : Value} {a xt : TypeId} {ok : Bool} (hx : xassert P x a ok = some v) (hr : VRel α x x') :
 ∃ v', (Instr.typeAssert x' xt a ok).run P w = .ok v' w ∧ VRel α v v' := by
 unfold xassert at hx
 split at hx
 ·cases hx
 ·rename_i d hne hu
  cases hr
  cases ok
  ·simp at hx
  ·simp only [if_true] at hx
   split at hx
   ·rename_i z hz
    cases hx
    refine ⟨.tuple #[z, .bool false], ?_, pair_rel (zero_rel hz α) (.bool _)⟩
    unfold Instr.typeAssert
    simp only [Sem.run_bind, run_underlying hu, Result.andThen]
    cases d <;> first | (exact absurd hu (hne _)) | (simp only [if_true, Sem.run_bind, run_zero hz, Result.andThen, Sem.run_pure])
   ·cases hx
 ·rename_i d t v0 hne hu
  obtain ⟨v', rfl, hv⟩ := iface_inv hr
  split at hx
  ·rename_i hta
   cases hx
   refine ⟨if ok then .tuple #[v', .bool true] else v', ?_, by cases ok <;> first | exact hv | exact pair_rel hv (.bool _)⟩
   unfold Instr.typeAssert
   simp only [Sem.run_bind, run_underlying hu, Result.andThen]
   cases d <;> first | (exact absurd hu (hne _)) | (simp only [if_pos hta, Sem.run_pure])
  ·rename_i hta
   cases ok
   ·simp at hx
   ·simp only [if_true] at hx
    split at hx
    ·rename_i z hz
     cases hx
     refine ⟨.tuple #[z, .bool false], ?_, pair_rel (zero_rel hz α) (.bool _)⟩
     unfold Instr.typeAssert
     simp only [Sem.run_bind, run_underlying hu, Result.andThen]
     cases d <;> first | (exact absurd hu (hne _)) | (simp only [if_neg hta, if_true, Sem.run_bind, run_zero hz, Result.andThen, Sem.run_pure])
    ·cases hx
 ·cases hx
end
inductive Res where
 | val (v : Value)
 | skip
 | enter (f : FuncId) (args : List Value)
def mapO (ρ : Operand → Option Value) : List Operand → Option (List Value)
 | [] => some []
 | x :: r => match ρ x with
  | some v => match mapO ρ r with
   | some l => some (v :: l)
   | none => none
  | none => none
def mapP (ρ : Operand → Option Value) : List (Nat × Operand) → Option (List (Nat × Value))
 | [] => some []
 | x :: r => match ρ x.2 with
  | some v => match mapP ρ r with
   | some l => some ((x.1, v) :: l)
   | none => none
  | none => none
def optO (ρ : Operand → Option Value) : Option Operand → Option (Option Value)
 | none => some none
 | some x => match ρ x with
  | some v => some (some v)
  | none => none
section
variable (P : Program)
def xbuiltin (S : St) (b : Builtin) (ts : List TypeId) (args : List Value) : Option (Value × St) :=
 match b with
 | .append => xappend P S ts args
 | .copy => xcopy P S ts args
 | .len => match xlen P S ts args with
  | some v => some (v, S)
  | none => none
 | .min => match xminmax min2 args with
  | some v => some (v, S)
  | none => none
 | .max => match xminmax max2 args with
  | some v => some (v, S)
  | none => none
 | .clear => xclear P S ts args
 | .delete => xdelete P S ts args
 | _ => none
def val (S : St) : Option Value → Option (Res × St)
 | some v => some (.val v, S)
 | none => none
def vals : Option (Value × St) → Option (Res × St)
 | some (v, S) => some (.val v, S)
 | none => none
def skips : Option St → Option (Res × St)
 | some S => some (.skip, S)
 | none => none
def passes : Value → Bool
 | .pointer none | .nilIface | .nilFunc => false
 | .func (.method _) _ _ => false
 | _ => true
def isIface (t : TypeId) : Bool :=
 match P.underlying t with
 | some (.interface _) | none => true
 | _ => false
def b1 {β : Type} (x : Option Value) (f : Value → Option β) : Option β :=
 match x with
 | some v => f v
 | none => none
def xop (okF : FuncId → Bool) (S : St) (ρ : Operand → Option Value) (o : Oper) : Option (Res × St) :=
 match o.op with
 | .move x => val S (ρ x)
 | .assign x => val S (ρ x)
 | .pick c a b => match ρ c with
  | some (.bool true) => val S (ρ a)
  | some (.bool false) => val S (ρ b)
  | _ => none
 | .alloc e => b1 (zeroT P e) fun z => vals (xnewVar P S e z)
 | .box e x => b1 (ρ x) fun v => vals (xnewVar P S e v)
 | .build t parts => match mapP ρ parts.toList with
  | some l => val S (xbuild P t l)
  | none => none
 | .buildSlice t len parts => match mapP ρ parts.toList with
  | some l => vals (xbuildSlice P S t len l)
  | none => none
 | .load t a => b1 (ρ a) fun v => val S (xload P S t v)
 | .store t a x => b1 (ρ a) fun v => b1 (ρ x) fun u => skips (xstore P S t v u)
 | .nilCheck x => b1 (ρ x) fun v => if passes v then some (.val v, S) else none
 | .binOp op t x y _ => b1 (ρ x) fun v => b1 (ρ y) fun u => val S (xbin P op t (isConst x || isConst y) v u)
 | .unOp op _ x => b1 (ρ x) fun v => val S (xun op v)
 | .convert s d x => b1 (ρ x) fun v => vals (xconvert P S s d v)
 | .makeInterface t x => b1 (ρ x) fun v => if isIface P t then none else some (.val (.iface t v), S)
 | .makeFunc fn a c => match mapO ρ a.toList, mapO ρ c.toList with
  | some l, some m => some (.val (.func fn l.toArray m.toArray), S)
  | _, _ => none
 | .makeMap _ none => some (.val (.map (some S.next)), S.new (.map [] 0 false))
 | .makeSlice t l c => b1 (ρ l) fun v => b1 (ρ c) fun u => vals (xmakeSlice P S t v u)
 | .slice t x lo hi mx => b1 (ρ x) fun v => match optO ρ lo, optO ρ hi, optO ρ mx with
  | some l, some h, some m => val S (xslice P S t v l h m)
  | _, _, _ => none
 | .fieldAddr s x f => b1 (ρ x) fun v => val S (xfieldAddr P s v f)
 | .field t x f => b1 (ρ x) fun v => val S (xfield P t v f)
 | .indexAddr t x i => b1 (ρ x) fun v => b1 (ρ i) fun u => val S (xindexAddr P t v u)
 | .index t x i => b1 (ρ x) fun v => b1 (ρ i) fun u => val S (xindex P t v u)
 | .lookup t x i ok => b1 (ρ x) fun v => b1 (ρ i) fun u => val S (xlookup P S t v u ok)
 | .mapUpdate t m k x => b1 (ρ m) fun v => b1 (ρ k) fun u => b1 (ρ x) fun y => skips (xupdate P S t v u y)
 | .insert t m k x => b1 (ρ m) fun v => b1 (ρ k) fun u => b1 (ρ x) fun y => skips (xupdate P S t v u y)
 | .range t x => b1 (ρ x) fun v => vals (xrange P S t v)
 | .next it s => b1 (ρ it) fun v => vals (xnext S v s)
 | .entry it => b1 (ρ it) fun v => val S (xentry S v)
 | .typeAssert x _ a ok => b1 (ρ x) fun v => val S (xassert P v a ok)
 | .extract t i => b1 (ρ t) fun v => match v with
  | .tuple vs => val S vs.toList[i]?
  | _ => none
 | .call c => match mapO ρ c.args.toList with
  | none => none
  | some args => match c.callee with
   | .builtin b => vals (xbuiltin P S b c.argTypes.toList args)
   | .value f => b1 (ρ f) fun v => match v with
    | .func (.func g) first captured => if okF g then some (.enter g (first.toList ++ args ++ captured.toList), S) else none
    | _ => none
   | .invoke _ _ => none
 | _ => none
def OkF (okF : FuncId → Bool) : Prop := ∀ f, okF f = true → ∃ fn, P.funcs[f]? = some fn ∧ fn.body.isSome = true ∧ (fn.name == "runtime.NumGoroutine") = false
end
section
variable {α : Place} {S : St} {w : World} {P : Program} {ρ : Operand → Option Value} {ρ' : Operand → Value}
theorem mapO_rel (hρ : ∀ x v, ρ x = some v → VRel α v (ρ' x)) : ∀ (l : List Operand) (vs : List Value), mapO ρ l = some vs → LRel α vs (l.map ρ')
 | [], vs, h => by simp only [mapO] at h; cases h; exact .nil _
 | x :: r, vs, h => by
  simp only [mapO] at h
  split at h
  ·rename_i v hv
   split at h
   ·rename_i l hl
    cases h
    exact .cons (hρ _ _ hv) (mapO_rel hρ r l hl)
   ·cases h
  ·cases h
theorem mapP_rel (hρ : ∀ x v, ρ x = some v → VRel α v (ρ' x)) : ∀ (l : List (Nat × Operand)) (vs : List (Nat × Value)), mapP ρ l = some vs → PRel α vs (l.map fun x => (x.1, ρ' x.2))
 | [], vs, h => by simp only [mapP] at h; cases h; exact ⟨rfl, fun i p p' hp => by simp at hp⟩
 | x :: r, vs, h => by
  simp only [mapP] at h
  split at h
  ·rename_i v hv
   split at h
   ·rename_i l hl
    cases h
    have ih := mapP_rel hρ r l hl
    refine ⟨by simp [ih.1], fun i p p' hp hp' => ?_⟩
    cases i with
    | zero => simp at hp hp'; subst hp; subst hp'; exact ⟨rfl, hρ _ _ hv⟩
    | succ i => exact ih.2 i p p' (by simpa using hp) (by simpa using hp')
   ·cases h
  ·cases h
theorem b1_some {β : Type} {x : Option Value} {f : Value → Option β} {b : β} (h : b1 x f = some b) : ∃ v, x = some v ∧ f v = some b := by
 cases x with
 | none => cases h
 | some v => exact ⟨v, rfl, h⟩
theorem val_some {x : Option Value} {r : Res} {S' : St} (h : val S x = some (r, S')) : ∃ v, x = some v ∧ r = .val v ∧ S' = S := by
 cases x with
 | none => cases h
 | some v => cases h; exact ⟨v, rfl, rfl, rfl⟩
theorem vals_some {x : Option (Value × St)} {r : Res} {S' : St} (h : vals x = some (r, S')) : ∃ v, x = some (v, S') ∧ r = .val v := by
 cases x with
 | none => cases h
 | some p => obtain ⟨v, T⟩ := p; cases h; exact ⟨v, rfl, rfl⟩
theorem skips_some {x : Option St} {r : Res} {S' : St} (h : skips x = some (r, S')) : x = some S' ∧ r = .skip := by
 cases x with
 | none => cases h
 | some T => cases h; exact ⟨rfl, rfl⟩
def Out (P : Program) (α : Place) (S : St) (w : World) (r : Res) (S' : St) (x : Sem Go.Next) : Prop :=
 ∃ β w', Next α S w β S' w' ∧ match r with
  | .val v => ∃ v', x.run P w = .ok (.value v') w' ∧ VRel β v v'
  | .skip => x.run P w = .ok .skip w'
  | .enter f args => ∃ args' : Array Value, x.run P w = .ok (.enter f args') w' ∧ LRel β args args'.toList
theorem Out.of_val {β : Place} {w' : World} {v v' : Value} {S' : St} {s : Sem Value} (h : s.run P w = .ok v' w') (n : Next α S w β S' w') (r : VRel β v v') :
 Out P α S w (.val v) S' (do pure (.value (← s))) := by
 refine ⟨β, w', n, v', ?_, r⟩
 rw [Sem.run_bind, h]; rfl
theorem Out.of_skip {β : Place} {w' : World} {S' : St} {s : Sem Unit} (h : s.run P w = .ok () w') (n : Next α S w β S' w') :
 Out P α S w .skip S' (do s; pure .skip) := by
 refine ⟨β, w', n, ?_⟩
 simp only []
 rw [Sem.run_bind, h]; rfl
theorem xbuiltin_sound (h : Rel α S w) {b : Builtin} {ts : Array TypeId} {ty : TypeId} {cs : Array Bool} {args : List Value} {args' : Array Value} {v : Value} {S' : St}
 (hx : xbuiltin P S b ts.toList args = some (v, S')) (hr : LRel α args args'.toList) : Out P α S w (.val v) S' (builtin b ts ty cs args') := by
 unfold xbuiltin at hx
 split at hx
 ·obtain ⟨β, w', v', h1, h2, h3⟩ := xappend_sound (P := P) (ty := ty) h hx hr
  exact Out.of_val h1 h2 h3
 ·obtain ⟨β, w', v', h1, h2, h3⟩ := xcopy_sound (P := P) (ty := ty) h hx hr
  exact Out.of_val h1 h2 h3
 ·split at hx
  ·rename_i u hu
   cases hx
   obtain ⟨h1, h2⟩ := xlen_sound (P := P) (ty := ty) h hu hr
   exact Out.of_val h1 (.refl h) h2
  ·cases hx
 ·split at hx
  ·rename_i u hu
   cases hx
   obtain ⟨v', h1, h2⟩ := xmin_sound (P := P) (w := w) (ts := ts) (ty := ty) hu hr
   exact Out.of_val h1 (.refl h) h2
  ·cases hx
 ·split at hx
  ·rename_i u hu
   cases hx
   obtain ⟨v', h1, h2⟩ := xmax_sound (P := P) (w := w) (ts := ts) (ty := ty) hu hr
   exact Out.of_val h1 (.refl h) h2
  ·cases hx
 ·obtain ⟨w', h1, h2, h3⟩ := xclear_sound (P := P) (ty := ty) h hx hr
  subst h3
  exact Out.of_val h1 h2 (LRel.tuple (.nil _))
 ·obtain ⟨w', h1, h2, h3⟩ := xdelete_sound (P := P) (ty := ty) h hx hr
  subst h3
  exact Out.of_val h1 h2 (LRel.tuple (.nil _))
 ·cases hx
theorem VRel.passes {v v' : Value} (r : VRel α v v') : passes v = passes v' := by
 cases r <;> first | rfl | (rename_i fn a b a' b' ha hb hra hrb; cases fn <;> rfl)
theorem optO_eq (hρ : ∀ x v, ρ x = some v → VRel α v (ρ' x)) {x : Option Operand} {y : Option Value} (h : optO ρ x = some y) :
 (x = none ∧ y = none) ∨ ∃ o v, x = some o ∧ y = some v ∧ VRel α v (ρ' o) := by
 cases x with
 | none => simp only [optO] at h; cases h; exact .inl ⟨rfl, rfl⟩
 | some o =>
  simp only [optO] at h
  split at h
  ·rename_i v hv; cases h; exact .inr ⟨o, v, rfl, rfl, hρ _ _ hv⟩
  ·cases h
theorem bounds_ints {len cap : Nat} {lo hi mx : Option Value} {p : Nat × Nat × Nat} (h : xbounds len cap lo hi mx = some p) :
 (∀ v, lo = some v → ∃ k i, v = .int k i) ∧ (∀ v, hi = some v → ∃ k i, v = .int k i) ∧ (∀ v, mx = some v → ∃ k i, v = .int k i) := by
 unfold xbounds at h
 simp only at h
 refine ⟨fun v e => ?_, fun v e => ?_, fun v e => ?_⟩
 ·subst e
  cases v with
  | int k i => exact ⟨k, i, rfl⟩
  | _ =>
   exfalso
   split at h
   ·cases h
   ·split at h
    ·cases h
    ·simp at h
 ·subst e
  cases v with
  | int k i => exact ⟨k, i, rfl⟩
  | _ =>
   exfalso
   split at h
   ·cases h
   ·simp at h
 ·subst e
  cases v with
  | int k i => exact ⟨k, i, rfl⟩
  | _ => simp at h
theorem xslice_ints {t : TypeId} {x v : Value} {lo hi mx : Option Value} (h : xslice P S t x lo hi mx = some v) :
 (∀ v, lo = some v → ∃ k i, v = .int k i) ∧ (∀ v, hi = some v → ∃ k i, v = .int k i) ∧ (∀ v, mx = some v → ∃ k i, v = .int k i) := by
 unfold xslice at h
 split at h
 ·split at h
  ·cases h
  ·rename_i hmx
   split at h
   ·rename_i hb
    obtain ⟨a, b, _⟩ := bounds_ints hb
    exact ⟨a, b, fun v e => by subst e; simp at hmx⟩
   ·cases h
 ·split at h
  ·rename_i hb _; exact bounds_ints hb
  ·cases h
 ·split at h
  ·rename_i hb _ _; exact bounds_ints hb
  ·cases h
 ·split at h
  ·rename_i hb _ _; exact bounds_ints hb
  ·cases h
 ·split at h
  ·split at h
   ·rename_i hb _ _; exact bounds_ints hb
   ·cases h
  ·cases h
 ·cases h
theorem optO_int (hρ : ∀ x v, ρ x = some v → VRel α v (ρ' x)) {x : Option Operand} {y : Option Value} (h : optO ρ x = some y) (hi : ∀ v, y = some v → ∃ k i, v = .int k i) : x.map ρ' = y := by
 rcases optO_eq hρ h with ⟨rfl, rfl⟩ | ⟨o, v, rfl, rfl, hv⟩
 ·rfl
 ·obtain ⟨k, i, rfl⟩ := hi v rfl
  have e : ρ' o = .int k i := by
   generalize ρ' o = u at hv
   cases hv; rfl
  simp only [Option.map_some, e]
theorem toL {ρ' : Operand → Value} (a : Array Operand) : (a.map ρ').toList = a.toList.map ρ' := by simp
theorem xop_sound (h : Rel α S w) (hρ : ∀ x v, ρ x = some v → VRel α v (ρ' x)) {okF : FuncId → Bool} (hF : OkF P okF) {o : Oper} {r : Res} {S' : St} (hx : xop P okF S ρ o = some (r, S')) :
 Out P α S w r S' (execOp ρ' o) := by
 unfold xop at hx
 unfold execOp
 split at hx
 ·rename_i x ho
  obtain ⟨v, hv, rfl, rfl⟩ := val_some hx
  simp only [ho]
  exact ⟨α, w, .refl h, ρ' x, rfl, hρ _ _ hv⟩
 ·rename_i x ho
  obtain ⟨v, hv, rfl, rfl⟩ := val_some hx
  simp only [ho]
  exact ⟨α, w, .refl h, ρ' x, rfl, hρ _ _ hv⟩
 ·rename_i c a b ho
  simp only [ho]
  split at hx
  ·rename_i hc
   obtain ⟨v, hv, rfl, rfl⟩ := val_some hx
   have hcb := hρ _ _ hc
   refine ⟨α, w, .refl h, ρ' a, ?_, hρ _ _ hv⟩
   generalize ρ' c = u at hcb
   cases hcb
   rfl
  ·rename_i hc
   obtain ⟨v, hv, rfl, rfl⟩ := val_some hx
   have hcb := hρ _ _ hc
   refine ⟨α, w, .refl h, ρ' b, ?_, hρ _ _ hv⟩
   generalize ρ' c = u at hcb
   cases hcb
   rfl
  ·cases hx
 ·rename_i e ho
  simp only [ho]
  obtain ⟨z, hz, hx⟩ := b1_some hx
  obtain ⟨v, hv, rfl⟩ := vals_some hx
  obtain ⟨β, w', a, h1, h2, h3⟩ := xnewVar_sound (P := P) h hv (zero_rel hz α)
  refine Out.of_val ?_ h2 h3
  simp only [Instr.alloc, Sem.run_bind, run_zero hz, Result.andThen, h1, Sem.run_pure]
 ·rename_i e x ho
  simp only [ho]
  obtain ⟨z, hz, hx⟩ := b1_some hx
  obtain ⟨v, hv, rfl⟩ := vals_some hx
  obtain ⟨β, w', a, h1, h2, h3⟩ := xnewVar_sound (P := P) h hv (hρ _ _ hz)
  refine Out.of_val ?_ h2 h3
  simp only [Instr.box, Sem.run_bind, Result.andThen, h1, Sem.run_pure]
 ·rename_i t parts ho
  simp only [ho]
  split at hx
  ·rename_i l hl
   obtain ⟨v, hv, rfl, rfl⟩ := val_some hx
   obtain ⟨v', h1, h2⟩ := xbuild_sound (P := P) (w := w) (α := α) (parts' := parts.map fun (i, x) => (i, ρ' x)) hv (by simpa using mapP_rel hρ _ _ hl)
   exact Out.of_val h1 (.refl h) h2
  ·cases hx
 ·rename_i t len parts ho
  simp only [ho]
  split at hx
  ·rename_i l hl
   obtain ⟨v, hv, rfl⟩ := vals_some hx
   obtain ⟨β, w', v', h1, h2, h3⟩ := xbuildSlice_sound (P := P) (parts' := parts.map fun (i, x) => (i, ρ' x)) h hv (by simpa using mapP_rel hρ _ _ hl)
   exact Out.of_val h1 h2 h3
  ·cases hx
 ·rename_i t a ho
  simp only [ho]
  obtain ⟨z, hz, hx⟩ := b1_some hx
  obtain ⟨v, hv, rfl, rfl⟩ := val_some hx
  obtain ⟨v', h1, h2⟩ := xload_sound (P := P) h hv (hρ _ _ hz)
  exact Out.of_val h1 (.refl h) h2
 ·rename_i t a x ho
  simp only [ho]
  obtain ⟨z, hz, hx⟩ := b1_some hx
  obtain ⟨y, hy, hx⟩ := b1_some hx
  obtain ⟨hv, rfl⟩ := skips_some hx
  obtain ⟨w', h1, h2⟩ := xstore_sound (P := P) h hv (hρ _ _ hz) (hρ _ _ hy)
  exact Out.of_skip h1 h2
 ·rename_i x ho
  simp only [ho]
  obtain ⟨z, hz, hx⟩ := b1_some hx
  have hzr := hρ _ _ hz
  split at hx
  ·rename_i hp
   cases hx
   refine ⟨α, w, .refl h, ρ' x, ?_, hzr⟩
   rw [hzr.passes] at hp
   generalize ρ' x = u at hp
   cases u with
   | pointer a => cases a with
    | none => simp [passes] at hp
    | some a => rfl
   | nilFunc => simp [passes] at hp
   | nilIface => simp [passes] at hp
   | func fn a b => cases fn <;> first | rfl | simp [passes] at hp
   | _ => rfl
  ·cases hx
 ·rename_i op t x y yt ho
  simp only [ho]
  obtain ⟨z, hz, hx⟩ := b1_some hx
  obtain ⟨u, hu, hx⟩ := b1_some hx
  obtain ⟨v, hv, rfl, rfl⟩ := val_some hx
  obtain ⟨v', h1, h2⟩ := xbin_sound (P := P) (w := w) hv (hρ _ _ hz) (hρ _ _ hu)
  exact Out.of_val h1 (.refl h) h2
 ·rename_i op t x ho
  simp only [ho]
  obtain ⟨z, hz, hx⟩ := b1_some hx
  obtain ⟨v, hv, rfl, rfl⟩ := val_some hx
  obtain ⟨v', h1, h2⟩ := xun_sound (P := P) (w := w) hv (hρ _ _ hz)
  exact Out.of_val h1 (.refl h) h2
 ·rename_i s d x ho
  simp only [ho]
  obtain ⟨z, hz, hx⟩ := b1_some hx
  obtain ⟨v, hv, rfl⟩ := vals_some hx
  obtain ⟨β, w', v', h1, h2, h3⟩ := xconvert_sound (P := P) h hv (hρ _ _ hz)
  exact Out.of_val h1 h2 h3
 ·rename_i t x ho
  simp only [ho]
  obtain ⟨z, hz, hx⟩ := b1_some hx
  split at hx
  ·cases hx
  ·rename_i hi
   cases hx
   refine Out.of_val (v' := .iface t (ρ' x)) (w' := w) ?_ (.refl h) (.iface t _ _ (hρ _ _ hz))
   unfold isIface at hi
   cases hu : P.underlying t with
   | none => simp [hu] at hi
   | some d =>
    simp only [Instr.makeInterface, Sem.run_bind, run_underlying hu, Result.andThen]
    cases d <;> first | rfl | simp [hu] at hi
 ·rename_i fn a c ho
  simp only [ho]
  split at hx
  ·rename_i l m hl hm
   cases hx
   have r1 := mapO_rel hρ _ _ hl
   have r2 := mapO_rel hρ _ _ hm
   refine Out.of_val (v' := .func fn (a.map ρ') (c.map ρ')) (w' := w) rfl (.refl h) ?_
   rw [← toL] at r1 r2
   exact .func fn _ _ _ _ (by have := r1.1; simpa using this) (by have := r2.1; simpa using this) (fun i v v' e e' => r1.2 i v v' (by simpa using e) (by rw [Array.getElem?_toList]; exact e'))
    (fun i v v' e e' => r2.2 i v v' (by simpa using e) (by rw [Array.getElem?_toList]; exact e'))
  ·cases hx
 ·rename_i t ho
  simp only [ho]
  cases hx
  refine Out.of_val (v' := .map (some w.heap.size)) (w' := { w with heap := w.heap.push (.map #[] 0) }) rfl
   (Next.new h (.map [] 0 false) rfl _ 0 0 rfl ⟨rfl, rfl, rfl⟩ ⟨rfl, #[], by simp, rfl, fun i a b ha => by simp at ha⟩) ?_
  exact .map S.next _ (Place.upd_same _ _ _)
 ·rename_i t l c ho
  simp only [ho]
  obtain ⟨z, hz, hx⟩ := b1_some hx
  obtain ⟨u, hu, hx⟩ := b1_some hx
  obtain ⟨v, hv, rfl⟩ := vals_some hx
  have e1 : ρ' l = z ∧ ρ' c = u := by
   have r1 := hρ _ _ hz
   have r2 := hρ _ _ hu
   unfold xmakeSlice at hv
   split at hv
   ·constructor
    ·generalize ρ' l = y at r1; cases r1; rfl
    ·generalize ρ' c = y at r2; cases r2; rfl
   ·cases hv
  rw [e1.1, e1.2]
  obtain ⟨β, w', v', h1, h2, h3⟩ := xmakeSlice_sound (P := P) h hv
  exact Out.of_val h1 h2 h3
 ·rename_i t x lo hi mx ho
  simp only [ho]
  obtain ⟨z, hz, hx⟩ := b1_some hx
  split at hx
  ·rename_i l hh m hl hhi hm
   obtain ⟨v, hv, rfl, rfl⟩ := val_some hx
   obtain ⟨i1, i2, i3⟩ := xslice_ints hv
   rw [optO_int hρ hl i1, optO_int hρ hhi i2, optO_int hρ hm i3]
   obtain ⟨v', h1, h2⟩ := xslice_sound (P := P) h hv (hρ _ _ hz)
   exact Out.of_val h1 (.refl h) h2
  ·cases hx
 ·rename_i s x f ho
  simp only [ho]
  obtain ⟨z, hz, hx⟩ := b1_some hx
  obtain ⟨v, hv, rfl, rfl⟩ := val_some hx
  obtain ⟨v', h1, h2⟩ := xfieldAddr_sound (P := P) (w := w) hv (hρ _ _ hz)
  exact Out.of_val h1 (.refl h) h2
 ·rename_i s x f ho
  simp only [ho]
  obtain ⟨z, hz, hx⟩ := b1_some hx
  obtain ⟨v, hv, rfl, rfl⟩ := val_some hx
  obtain ⟨v', h1, h2⟩ := xfield_sound (P := P) (w := w) hv (hρ _ _ hz)
  exact Out.of_val h1 (.refl h) h2
 ·rename_i t x i ho
  simp only [ho]
  obtain ⟨z, hz, hx⟩ := b1_some hx
  obtain ⟨u, hu, hx⟩ := b1_some hx
  obtain ⟨v, hv, rfl, rfl⟩ := val_some hx
  have e1 : ρ' i = u := by
   have r1 := hρ _ _ hu
   unfold xindexAddr at hv
   split at hv
   ·generalize ρ' i = y at r1; cases r1; rfl
   ·cases hv
  rw [e1]
  obtain ⟨v', h1, h2⟩ := xindexAddr_sound (P := P) (w := w) hv (hρ _ _ hz)
  exact Out.of_val h1 (.refl h) h2
 ·rename_i t x i ho
  simp only [ho]
  obtain ⟨z, hz, hx⟩ := b1_some hx
  obtain ⟨u, hu, hx⟩ := b1_some hx
  obtain ⟨v, hv, rfl, rfl⟩ := val_some hx
  have e1 : ρ' i = u := by
   have r1 := hρ _ _ hu
   unfold xindex at hv
   split at hv
   ·generalize ρ' i = y at r1; cases r1; rfl
   ·cases hv
  rw [e1]
  obtain ⟨v', h1, h2⟩ := xindex_sound (P := P) (w := w) hv (hρ _ _ hz)
  exact Out.of_val h1 (.refl h) h2
 ·rename_i t x i ok ho
  simp only [ho]
  obtain ⟨z, hz, hx⟩ := b1_some hx
  obtain ⟨u, hu, hx⟩ := b1_some hx
  obtain ⟨v, hv, rfl, rfl⟩ := val_some hx
  obtain ⟨v', h1, h2⟩ := xlookup_sound (P := P) h hv (hρ _ _ hz) (hρ _ _ hu)
  exact Out.of_val h1 (.refl h) h2
 ·rename_i t m k x ho
  simp only [ho]
  obtain ⟨z, hz, hx⟩ := b1_some hx
  obtain ⟨u, hu, hx⟩ := b1_some hx
  obtain ⟨y, hy, hx⟩ := b1_some hx
  obtain ⟨hv, rfl⟩ := skips_some hx
  obtain ⟨w', h1, h2⟩ := xupdate_sound (P := P) h hv (hρ _ _ hz) (hρ _ _ hu) (hρ _ _ hy)
  exact Out.of_skip h1 h2
 ·rename_i t m k x ho
  simp only [ho]
  obtain ⟨z, hz, hx⟩ := b1_some hx
  obtain ⟨u, hu, hx⟩ := b1_some hx
  obtain ⟨y, hy, hx⟩ := b1_some hx
  obtain ⟨hv, rfl⟩ := skips_some hx
  obtain ⟨w', h1, h2⟩ := xupdate_sound (P := P) h hv (hρ _ _ hz) (hρ _ _ hu) (hρ _ _ hy)
  exact Out.of_skip h1 h2
 ·rename_i t x ho
  simp only [ho]
  obtain ⟨z, hz, hx⟩ := b1_some hx
  obtain ⟨v, hv, rfl⟩ := vals_some hx
  obtain ⟨β, w', v', h1, h2, h3⟩ := xrange_sound (P := P) h hv (hρ _ _ hz)
  exact Out.of_val h1 h2 h3
 ·rename_i it s ho
  simp only [ho]
  obtain ⟨z, hz, hx⟩ := b1_some hx
  obtain ⟨v, hv, rfl⟩ := vals_some hx
  obtain ⟨w', v', h1, h2, h3⟩ := xnext_sound (P := P) (ty := o.type) h hv (hρ _ _ hz)
  exact Out.of_val h1 h2 h3
 ·rename_i it ho
  simp only [ho]
  obtain ⟨z, hz, hx⟩ := b1_some hx
  obtain ⟨v, hv, rfl, rfl⟩ := val_some hx
  obtain ⟨v', h1, h2⟩ := xentry_sound (P := P) h hv (hρ _ _ hz)
  exact Out.of_val h1 (.refl h) h2
 ·rename_i x xt a ok ho
  simp only [ho]
  obtain ⟨z, hz, hx⟩ := b1_some hx
  obtain ⟨v, hv, rfl, rfl⟩ := val_some hx
  obtain ⟨v', h1, h2⟩ := xassert_sound (P := P) (w := w) (xt := xt) hv (hρ _ _ hz)
  exact Out.of_val h1 (.refl h) h2
 ·rename_i t i ho
  simp only [ho]
  obtain ⟨z, hz, hx⟩ := b1_some hx
  split at hx
  ·rename_i vs
   obtain ⟨v, hv, rfl, rfl⟩ := val_some hx
   have r1 := hρ _ _ hz
   obtain ⟨vs', e, hr⟩ := tuple_inv r1
   obtain ⟨v', g1, g2⟩ := hr.get hv
   rw [Array.getElem?_toList] at g1
   refine Out.of_val (v' := v') (w' := w) ?_ (.refl h) g2
   rw [e]
   simp only [Instr.extract, g1]
   rfl
  ·cases hx
 ·rename_i c ho
  simp only [ho]
  split at hx
  ·cases hx
  ·rename_i args hargs
   have ra := mapO_rel hρ _ _ hargs
   rw [← toL] at ra
   split at hx
   ·rename_i b hc
    obtain ⟨v, hv, rfl⟩ := vals_some hx
    obtain ⟨β, w', h1, v', h2, h3⟩ := xbuiltin_sound (P := P) (ty := o.type) (cs := c.args.map fun | .const _ => true | _ => false) h hv ra
    refine ⟨β, w', h1, v', ?_, h3⟩
    unfold resolve
    simp only [hc]
    rw [Sem.run_bind, Sem.run_pure]
    simp only [Result.andThen, invoke]
    exact h2
   ·rename_i f hc
    obtain ⟨z, hz, hx⟩ := b1_some hx
    split at hx
    ·rename_i g first captured
     split at hx
     ·rename_i hg
      cases hx
      have r1 := hρ _ _ hz
      obtain ⟨fn, hfn, hbody, hname⟩ := hF g hg
      unfold resolve
      simp only [hc]
      generalize ρ' f = u at r1
      cases r1 with
      | func _ _ _ a' b' ha hb hra hrb =>
       have q1 := LRel.of_arrays ha hra
       have q2 := LRel.of_arrays hb hrb
       refine ⟨α, w, .refl h, a' ++ c.args.map ρ' ++ b', ?_, by simpa using (q1.append ra).append q2⟩
       simp only [Deferred.ofValue]
       rw [Sem.run_bind, Sem.run_pure]
       simp only [Result.andThen, invoke, callFunc]
       rw [Sem.run_bind, run_program]
       simp only [Result.andThen, hfn]
       rw [hname]
       have hn : fn.body.isNone = false := by cases hb : fn.body <;> simp_all
       simp only [Bool.false_eq_true, if_false, hn]
       rfl
     ·cases hx
    ·cases hx
   ·cases hx
 ·cases hx
end
abbrev XAct := List (Option Value)
abbrev XCall := FuncId → List Value → St → Option (Value × St)
def slot (a : XAct) (t : Nat) : Option Value :=
 match a[t]? with
 | some v => v
 | none => none
def evalX (S : St) (a : XAct) : Operand → Option Value
 | .tmp t => slot a t
 | .const v => if plain v then some v else none
 | .global g => if g < S.glob then match S.heap.get g with
  | some _ => some (.pointer (some ⟨g, 0, none⟩))
  | none => none
  else none
 | .func f => some (.func (.func f) #[] #[])
def putX (a : XAct) (dst : Option Tmp) (v : Value) : XAct :=
 match dst with
 | some d => a.set d (some v)
 | none => a
def wantedX (ops : Array Oper) (a : XAct) (o : Oper) : Option Bool :=
 match o.guard with
 | none => some true
 | some (j, want) => match ops[j]? with
  | some oj => match oj.dst with
   | some d => match slot a d with
    | some (.bool b) => some (b == want)
    | some _ => some false
    | none => none
   | none => some false
  | none => some false
def undefX : Value := .tuple #[]
section
variable (P : Program) (okF : FuncId → Bool) (call : XCall)
def xrun (S : St) (ρ : Operand → Option Value) (o : Oper) : Option (Value × St) :=
 match xop P okF S ρ o with
 | some (.val v, S') => some (v, S')
 | some (.skip, S') => some (undefX, S')
 | some (.enter f args, S') => call f args S'
 | none => none
def xops (ops : Array Oper) : List Oper → XAct → St → Option (XAct × St)
 | [], a, S => some (a, S)
 | o :: r, a, S =>
  match wantedX ops a o with
  | none => none
  | some false => xops ops r (putX a o.dst undefX) S
  | some true => match xrun P okF call S (evalX S a) o with
   | some (v, S') => xops ops r (putX a o.dst v) S'
   | none => none
end
def ARel (α : Place) (a : XAct) (tmps : Array Value) : Prop :=
 a.length = tmps.size ∧ ∀ (i : Nat) v, slot a i = some v → ∃ v', tmps[i]? = some v' ∧ VRel α v v'
theorem ARel.mono {α β : Place} (h : α.Ext β) {a : XAct} {t : Array Value} (r : ARel α a t) : ARel β a t :=
 ⟨r.1, fun i v hv => let ⟨v', a, b⟩ := r.2 i v hv; ⟨v', a, b.mono h⟩⟩
theorem slot_set (a : XAct) (d : Nat) (v : Option Value) (i : Nat) : slot (a.set d v) i = if d = i ∧ d < a.length then v else slot a i := by
 unfold slot
 rw [List.getElem?_set]
 by_cases hd : d = i
 ·subst hd
  by_cases hl : d < a.length
  ·simp [hl]
  ·simp [hl]
 ·simp [hd]
theorem ARel.put {α : Place} {a : XAct} {act : Act} (r : ARel α a act.tmps) (dst : Option Tmp) {v v' : Value} (hv : VRel α v v') : ARel α (putX a dst v) (act.put dst v').tmps := by
 cases dst with
 | none => exact r
 | some d =>
  refine ⟨by simpa [putX, Act.put] using r.1, fun i u hu => ?_⟩
  simp only [putX, slot_set] at hu
  simp only [Act.put]
  have hl : List.length a = act.tmps.size := r.1
  split at hu
  ·rename_i h
   obtain ⟨rfl, hlt⟩ := h
   cases hu
   have hlt : d < List.length a := hlt
   have : d < act.tmps.size := hl ▸ hlt
   exact ⟨v', by simp [this], hv⟩
  ·rename_i h
   obtain ⟨u', h1, h2⟩ := r.2 i u hu
   refine ⟨u', ?_, h2⟩
   by_cases hdi : d = i
   ·subst hdi
    have : d < act.tmps.size := (Array.getElem?_eq_some_iff.1 h1).1
    have h2 : d < List.length a := hl ▸ this
    exact absurd ⟨rfl, h2⟩ h
   ·rw [Array.getElem?_setIfInBounds_ne hdi]; exact h1
theorem undef_rel (α : Place) : VRel α undefX undef := .tuple #[] #[] rfl (fun i v v' h => by simp at h)
theorem evalX_rel {α : Place} {S : St} {w : World} {a : XAct} {act : Act} (h : Rel α S w) (r : ARel α a act.tmps) (x : Operand) (v : Value) (hx : evalX S a x = some v) : VRel α v (act.eval x) := by
 cases x with
 | tmp t =>
  obtain ⟨v', h1, h2⟩ := r.2 t v hx
  simp only [Act.eval, Array.getD_eq_getD_getElem?, h1]
  exact h2
 | const c =>
  simp only [evalX] at hx
  split at hx
  ·rename_i hp
   cases hx
   exact plain_rel α _ hp
  ·cases hx
 | global g =>
  simp only [evalX] at hx
  split at hx
  ·rename_i hg
   split at hx
   ·rename_i e he
    cases hx
    obtain ⟨l, hl, _⟩ := h.ent g e he
    obtain ⟨h1, h2⟩ := h.glob g l hg hl
    have := VRel.ptr (α := α) g 0 l hl
    rw [h1, h2] at this
    exact this
   ·cases hx
  ·cases hx
 | func f =>
  simp only [evalX] at hx
  cases hx
  exact .func _ _ _ _ _ rfl rfl (fun i v v' h => by simp at h) (fun i v v' h => by simp at h)
theorem wantedX_sound {α : Place} {ops : Array Oper} {a : XAct} {tmps : Array Value} {o : Oper} {b : Bool} (r : ARel α a tmps) (h : wantedX ops a o = some b) : Region.wanted o (yielded ops tmps) = b := by
 unfold wantedX at h
 unfold Region.wanted
 split at h
 ·rename_i hg; cases h; rw [hg]
 ·rename_i j want hg
  rw [hg]
  simp only [yielded]
  split at h
  ·rename_i oj hj
   rw [hj]
   simp only [Option.bind_some]
   split at h
   ·rename_i d hd
    rw [hd]
    simp only [Option.bind_some]
    split at h
    ·rename_i c hs
     cases h
     obtain ⟨v', h1, h2⟩ := r.2 d _ hs
     cases h2
     rw [h1]
     simp only []
     cases c <;> cases want <;> rfl
    ·rename_i u hnb hs
     cases h
     obtain ⟨v', h1, h2⟩ := r.2 d _ hs
     rw [h1]
     cases h2 <;> first | (exact absurd rfl (hnb _)) | (cases want <;> rfl)
    ·cases h
   ·rename_i hd
    cases h
    rw [hd]
    cases want <;> rfl
  ·rename_i hj
   cases h
   rw [hj]
   cases want <;> rfl
def CallSound (P : Program) (call : XCall) : Prop :=
 ∀ f args S v S', call f args S = some (v, S') → ∀ α w (args' : Array Value), Rel α S w → LRel α args args'.toList →
  Calls P f args' w fun e w' => ∃ β v', e = .returned v' ∧ Next α S w β S' w' ∧ VRel β v v'
section
variable {P : Program} {okF : FuncId → Bool} {call : XCall}
theorem xrun_sound (hF : OkF P okF) (hC : CallSound P call) {α : Place} {S : St} {w : World} (h : Rel α S w) {ρ : Operand → Option Value} {act : Act} (hρ : ∀ x v, ρ x = some v → VRel α v (act.eval x))
 {o : Oper} {v : Value} {S' : St} (hx : xrun P okF call S ρ o = some (v, S')) {K : Act → World → Prop} {Q : Exit → Act → World → Prop}
 (hK : ∀ β w' v', Next α S w β S' w' → VRel β v v' → K (act.put o.dst v') w') : o.wp P act w K Q := by
 unfold xrun at hx
 split at hx
 ·rename_i u T hop
  cases hx
  obtain ⟨β, w', hn, v', hrun, hv⟩ := xop_sound (P := P) h hρ hF hop
  unfold Oper.wp
  rw [hrun]
  exact hK β w' v' hn hv
 ·rename_i T hop
  cases hx
  obtain ⟨β, w', hn, hrun⟩ := xop_sound (P := P) h hρ hF hop
  simp only [] at hrun
  unfold Oper.wp
  rw [hrun]
  exact hK β w' undef hn (undef_rel β)
 ·rename_i f args T hop
  obtain ⟨β, w', hn, args', hrun, hargs⟩ := xop_sound (P := P) h hρ hF hop
  unfold Oper.wp
  rw [hrun]
  simp only [Oper.upon]
  refine (hC f args T v S' hx β w' args' hn.rel hargs).mono ?_
  rintro e w'' ⟨γ, v', rfl, hn', hv'⟩
  exact hK γ w'' v' (hn.trans hn') hv'
 ·cases hx
theorem xops_sound (hF : OkF P okF) (hC : CallSound P call) (ops : Array Oper) (Q : Exit → Act → World → Prop) : ∀ (l : List Oper) (a : XAct) (S : St) (α : Place) (w : World) (act : Act) (a' : XAct) (S' : St),
 Rel α S w → ARel α a act.tmps → xops P okF call ops l a S = some (a', S') →
 (∀ β w' act', Next α S w β S' w' → ARel β a' act'.tmps → act'.defers = act.defers → Q .normal act' w') → wpList P ops Q l act w
 | [], a, S, α, w, act, a', S', h, r, hx, hQ => by
  simp only [xops] at hx; cases hx
  exact hQ α w act (.refl h) r rfl
 | o :: l, a, S, α, w, act, a', S', h, r, hx, hQ => by
  simp only [xops] at hx
  split at hx
  ·cases hx
  ·rename_i hw
   simp only [wpList, wantedX_sound r hw, Bool.false_eq_true, if_false]
   refine xops_sound hF hC ops Q l _ S α w _ a' S' h (r.put o.dst (undef_rel α)) hx (fun β w' act' hn hr hd => hQ β w' act' hn hr (hd.trans ?_))
   cases o.dst <;> rfl
  ·rename_i hw
   split at hx
   ·rename_i v T hrun
    simp only [wpList, wantedX_sound r hw, if_true]
    refine .inl (xrun_sound hF hC h (fun x v hv => evalX_rel h r x v hv) hrun ?_)
    intro β w' v' hn hv
    refine xops_sound hF hC ops Q l _ T β w' _ a' S' hn.rel ((r.mono hn.ext).put o.dst hv) hx (fun γ w'' act' hn' hr hd => hQ γ w'' act' (hn.trans hn') hr (hd.trans ?_))
    cases o.dst <;> rfl
   ·cases hx
end
def edgeMask (acc : List Nat) : List Edge → Nat
 | [] => 0
 | e :: r => (if Region.binds .any e then 2 ^ e.on ||| acc.getD e.on 0 else 0) ||| edgeMask acc r
def masksF : List Oper → List Nat → List Nat
 | [], acc => acc
 | o :: r, acc => masksF r (acc ++ [edgeMask acc o.after.toList])
def masks (ops : List Oper) : List Nat := masksF ops []
theorem edgeMask_bit (acc : List Nat) (w : Nat) : ∀ es : List Edge, (edgeMask acc es).testBit w = true → ∃ e ∈ es, Region.binds .any e = true ∧ (w = e.on ∨ (acc.getD e.on 0).testBit w = true)
 | [], h => by simp [edgeMask] at h
 | e :: r, h => by
  simp only [edgeMask, Nat.testBit_or, Bool.or_eq_true] at h
  rcases h with h | h
  ·split at h
   ·rename_i hb
    rw [Nat.testBit_or, Bool.or_eq_true] at h
    refine ⟨e, by simp, hb, ?_⟩
    rcases h with h | h
    ·rw [Nat.testBit_two_pow] at h
     exact .inl (by simpa using h : e.on = w).symm
    ·exact .inr h
   ·simp at h
  ·obtain ⟨e', h1, h2⟩ := edgeMask_bit acc w r h
   exact ⟨e', by simp [h1], h2⟩
theorem masksF_prefix : ∀ (ops : List Oper) (acc : List Nat), ∃ r, masksF ops acc = acc ++ r ∧ r.length = ops.length
 | [], acc => ⟨[], by simp [masksF], rfl⟩
 | o :: ops, acc => by
  obtain ⟨r, h1, h2⟩ := masksF_prefix ops (acc ++ [edgeMask acc o.after.toList])
  exact ⟨edgeMask acc o.after.toList :: r, by simp only [masksF, h1]; simp, by simp [h2]⟩
theorem masksF_get : ∀ (ops : List Oper) (acc : List Nat) (k : Nat) (o : Oper), ops[k]? = some o →
 (masksF ops acc).getD (acc.length + k) 0 = edgeMask ((masksF ops acc).take (acc.length + k)) o.after.toList
 | [], acc, k, o, h => by simp at h
 | p :: ops, acc, k, o, h => by
  simp only [masksF]
  cases k with
  | zero =>
   simp only [List.getElem?_cons_zero, Option.some.injEq] at h
   subst h
   obtain ⟨r, h1, _⟩ := masksF_prefix ops (acc ++ [edgeMask acc p.after.toList])
   rw [h1]
   simp [List.getD, List.take_append]
  | succ k =>
   have ih := masksF_get ops (acc ++ [edgeMask acc p.after.toList]) k o (by simpa using h)
   simp only [List.length_append, List.length_singleton] at ih
   rw [show acc.length + (k + 1) = acc.length + 1 + k by omega]
   exact ih
theorem masks_closed (ops : List Oper) (D : Nat → Prop) (hc : ∀ i o, ops[i]? = some o → D i → ∀ e ∈ o.after.toList, Region.binds .any e = true → D e.on) (hD : ∀ i, D i → i < ops.length) :
 ∀ i, D i → ∀ w, ((masks ops).getD i 0).testBit w = true → D w := by
 intro i
 induction i using Nat.strongRecOn with
 | _ i ih =>
  intro hi w hw
  have hlt := hD i hi
  have ho : ops[i]? = some ops[i] := List.getElem?_eq_getElem hlt
  have hg := masksF_get ops [] i _ ho
  simp only [List.length_nil, Nat.zero_add] at hg
  unfold masks at hw
  rw [hg] at hw
  obtain ⟨e, he, hb, h⟩ := edgeMask_bit _ _ _ hw
  have hde := hc i _ ho hi e he hb
  rcases h with rfl | h
  ·exact hde
  ·by_cases hlt2 : e.on < i
   ·refine ih e.on hlt2 hde w ?_
    unfold masks
    have : ((masksF ops []).take i).getD e.on 0 = (masksF ops []).getD e.on 0 := by
     simp only [List.getD, List.getElem?_take, if_pos hlt2]
    rw [this] at h
    exact h
   ·have : ((masksF ops []).take i).getD e.on 0 = 0 := by
     simp only [List.getD, List.getElem?_take, if_neg hlt2]
     rfl
    rw [this] at h
    simp at h
def isA : Op → Bool
 | .alloc _ | .makeSlice .. | .makeMap _ none => true
 | _ => false
def isQ (P : Program) : Op → Bool
 | .move _ | .assign _ | .pick .. | .build .. | .load .. | .nilCheck _ | .binOp .. | .unOp .. | .makeInterface .. | .makeFunc .. | .slice .. | .fieldAddr .. | .field .. | .indexAddr ..
 | .index .. | .lookup .. | .typeAssert .. | .extract .. => true
 | .convert _ d _ => match P.underlying d with
  | some (.slice _) => false
  | _ => true
 | .call c => match c.callee with
  | .builtin .len | .builtin .min | .builtin .max => true
  | _ => false
 | _ => false
def xal (P : Program) (ρ : Operand → Option Value) (op : Op) : Option (Ent × (Nat → Value)) :=
 match op with
 | .alloc e => match zeroT P e with
  | some z => if z.cells.toList.all plain1 = true then some (.row z.cells.toList (eszT P e) false, fun i => .pointer (some ⟨i, 0, none⟩)) else none
  | none => none
 | .makeMap _ none => some (.map [] 0 false, fun i => .map (some i))
 | .makeSlice t l c => match ρ l, ρ c with
  | some (.int _ len), some (.int _ cap) =>
   match P.underlying t with
   | some (.slice elem) => match sizeT P elem, bytesT P elem, zeroT P elem with
    | some size, some bytes, some z =>
     if IntKind.i64.wrap len = len ∧ IntKind.i64.wrap cap = cap ∧ 0 ≤ len ∧ len ≤ cap ∧ (bytes : Int) * cap ≤ 2 ^ 48 ∧ size ≠ 0 ∧ z.cells.size = size ∧ z.cells.toList.all plain1 = true then
      some (.row (zerosL z.cells.toList cap.toNat) size false, fun i => .slice (some ⟨i, 0, none⟩) len.toNat cap.toNat)
     else none
    | _, _, _ => none
   | _ => none
  | _, _ => none
 | _ => none
section
variable {α : Place} {S : St} {w : World} {P : Program} {okF : FuncId → Bool} {ρ : Operand → Option Value} {ρ' : Operand → Value}
theorem quiet_same {o : Oper} (hq : isQ P o.op = true) {r : Res} {S' : St} (hx : xop P okF S ρ o = some (r, S')) : ∃ v, r = .val v ∧ S' = S := by
 unfold xop at hx
 split at hx
 all_goals (rename_i ho; try simp only [ho, isQ] at hq; try cases hq)
 ·obtain ⟨v, _, e1, e2⟩ := val_some hx; exact ⟨v, e1, e2⟩
 ·obtain ⟨v, _, e1, e2⟩ := val_some hx; exact ⟨v, e1, e2⟩
 ·split at hx
  ·obtain ⟨v, _, e1, e2⟩ := val_some hx; exact ⟨v, e1, e2⟩
  ·obtain ⟨v, _, e1, e2⟩ := val_some hx; exact ⟨v, e1, e2⟩
  ·cases hx
 ·split at hx
  ·obtain ⟨v, _, e1, e2⟩ := val_some hx; exact ⟨v, e1, e2⟩
  ·cases hx
 ·obtain ⟨z, _, hx⟩ := b1_some hx
  obtain ⟨v, _, e1, e2⟩ := val_some hx; exact ⟨v, e1, e2⟩
 ·obtain ⟨z, _, hx⟩ := b1_some hx
  split at hx
  ·cases hx; exact ⟨_, rfl, rfl⟩
  ·cases hx
 ·obtain ⟨z, _, hx⟩ := b1_some hx
  obtain ⟨y, _, hx⟩ := b1_some hx
  obtain ⟨v, _, e1, e2⟩ := val_some hx; exact ⟨v, e1, e2⟩
 ·obtain ⟨z, _, hx⟩ := b1_some hx
  obtain ⟨v, _, e1, e2⟩ := val_some hx; exact ⟨v, e1, e2⟩
 ·obtain ⟨z, hzz, hx⟩ := b1_some hx
  obtain ⟨v, hv, e1⟩ := vals_some hx
  refine ⟨v, e1, ?_⟩
  unfold xconvert at hv
  split at hv
  ·cases hv; rfl
  ·cases hv; rfl
  ·cases hv; rfl
  ·rename_i hd; rw [hd] at hq; cases hq
  ·rename_i hd; rw [hd] at hq; cases hq
  ·split at hv
   ·cases hv; rfl
   ·cases hv
  ·split at hv
   ·split at hv
    ·cases hv; rfl
    ·split at hv
     ·split at hv
      ·split at hv
       ·split at hv
        ·cases hv; rfl
        ·cases hv
       ·cases hv
      ·cases hv
     ·cases hv
   ·cases hv
  ·cases hv
 ·obtain ⟨z, _, hx⟩ := b1_some hx
  split at hx
  ·cases hx
  ·cases hx; exact ⟨_, rfl, rfl⟩
 ·split at hx
  ·cases hx; exact ⟨_, rfl, rfl⟩
  ·cases hx
 ·obtain ⟨z, _, hx⟩ := b1_some hx
  split at hx
  ·obtain ⟨v, _, e1, e2⟩ := val_some hx; exact ⟨v, e1, e2⟩
  ·cases hx
 ·obtain ⟨z, _, hx⟩ := b1_some hx
  obtain ⟨v, _, e1, e2⟩ := val_some hx; exact ⟨v, e1, e2⟩
 ·obtain ⟨z, _, hx⟩ := b1_some hx
  obtain ⟨v, _, e1, e2⟩ := val_some hx; exact ⟨v, e1, e2⟩
 ·obtain ⟨z, _, hx⟩ := b1_some hx
  obtain ⟨y, _, hx⟩ := b1_some hx
  obtain ⟨v, _, e1, e2⟩ := val_some hx; exact ⟨v, e1, e2⟩
 ·obtain ⟨z, _, hx⟩ := b1_some hx
  obtain ⟨y, _, hx⟩ := b1_some hx
  obtain ⟨v, _, e1, e2⟩ := val_some hx; exact ⟨v, e1, e2⟩
 ·obtain ⟨z, _, hx⟩ := b1_some hx
  obtain ⟨y, _, hx⟩ := b1_some hx
  obtain ⟨v, _, e1, e2⟩ := val_some hx; exact ⟨v, e1, e2⟩
 ·obtain ⟨z, _, hx⟩ := b1_some hx
  obtain ⟨v, _, e1, e2⟩ := val_some hx; exact ⟨v, e1, e2⟩
 ·obtain ⟨z, _, hx⟩ := b1_some hx
  split at hx
  ·obtain ⟨v, _, e1, e2⟩ := val_some hx; exact ⟨v, e1, e2⟩
  ·cases hx
 ·split at hx
  ·cases hx
  ·split at hx
   ·rename_i b hc
    obtain ⟨v, hv, e1⟩ := vals_some hx
    refine ⟨v, e1, ?_⟩
    rw [hc] at hq
    cases b <;> simp only [] at hq <;> first
     | (cases hq; done)
     | (simp only [xbuiltin] at hv
        split at hv
        ·cases hv; rfl
        ·cases hv)
   ·rename_i f hc
    rw [hc] at hq
    cases hq
   ·cases hx
end
end Go.Xe
