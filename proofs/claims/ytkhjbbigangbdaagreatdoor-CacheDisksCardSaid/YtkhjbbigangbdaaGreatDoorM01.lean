/- A part of the proof. -/
import Derived.Test.YtkhjbbigangbdaaGreatDoorM00
import Derived.Laws.StructEq
set_option linter.all false
namespace Go.Xe
open Go
section
variable {α : Place} {S : St} {w : World} {P : Program}
theorem one_iff (v : Value) : one v = v.oneCell' := by cases v <;> rfl
theorem VRel.one {v v' : Value} (r : VRel α v v') : one v = one v' := by cases r <;> rfl
theorem alike_refl (w : World) : Alike0 w w := ⟨rfl, rfl, rfl⟩
theorem run_store_cell {g o : Nat} {c : Array Value} {t : TypeId} {fr : Nat × Nat} {v : Value} (hb : w.heap[g]? = some (.cells c t fr)) (ho : o < c.size)
 (hf : ∀ o, o < c.size → ¬(fr.1 ≤ o ∧ o < fr.2)) (hv : one v = true) :
 ∃ w', (store ⟨g, o, none⟩ v).run P w = .ok () w' ∧ w'.heap.size = w.heap.size ∧ (∀ b, b ≠ g → w'.heap[b]? = w.heap[b]?) ∧
  w'.heap[g]? = some (.cells (c.setIfInBounds o v) t fr) ∧ Alike0 w w' := by
 have hcell : w.cell? ⟨g, o, none⟩ = some c[o] := by simp [World.cell?, hb, ho]
 have hfro : w.frozen? ⟨g, o, none⟩ = false := by
  have := hf o ho
  simp only [World.frozen?, hb]
  simp only [Bool.and_eq_false_iff, decide_eq_false_iff_not]
  omega
 refine ⟨w.setCell ⟨g, o, none⟩ v, ?_, ?_, ?_, ?_, ⟨rfl, rfl, rfl⟩⟩
 ·rw [run_store P w _ _ _ (by rw [← one_iff]; exact hv), hcell]
  simp [hfro]
 ·simp [World.setCell]
 ·intro b hbg
  simp only [World.setCell, Array.getElem?_modify]
  rw [if_neg (by omega)]
 ·simp only [World.setCell, Array.getElem?_modify]
  simp [hb]
theorem run_storeCells (g o : Nat) (t : TypeId) (fr : Nat × Nat) : ∀ (vs : List Value) (i : Nat) (c : Array Value) (w : World), w.heap[g]? = some (.cells c t fr) →
 o + i + vs.length ≤ c.size → (∀ o, o < c.size → ¬(fr.1 ≤ o ∧ o < fr.2)) → vs.all one = true →
 ∃ (w' : World) (c' : Array Value), (storeCells ⟨g, o, none⟩ vs i).run P w = .ok () w' ∧ w'.heap.size = w.heap.size ∧ (∀ b, b ≠ g → w'.heap[b]? = w.heap[b]?) ∧
  w'.heap[g]? = some (.cells c' t fr) ∧ c'.size = c.size ∧ (∀ j, c'[j]? = if o + i ≤ j ∧ j < o + i + vs.length then vs[j - (o + i)]? else c[j]?) ∧ Alike0 w w'
 | [], i, c, w, hb, _, _, _ => ⟨w, c, rfl, rfl, fun _ _ => rfl, hb, rfl, fun j => by rw [if_neg (by simp only [List.length_nil]; omega)], alike_refl w⟩
 | v :: vs, i, c, w, hb, hl, hf, ha => by
  simp only [List.length_cons] at hl
  simp only [List.all_cons, Bool.and_eq_true] at ha
  obtain ⟨w1, h1, h2, h3, h4, h5⟩ := run_store_cell (P := P) (v := v) hb (o := o + i) (by omega) hf ha.1
  obtain ⟨w2, c2, g1, g2, g3, g4, g5, g6, g7⟩ := run_storeCells g o t fr vs (i + 1) (c.setIfInBounds (o + i) v) w1 h4 (by simp; omega) (by simpa using hf) ha.2
  refine ⟨w2, c2, ?_, by omega, fun b hbg => by rw [g3 b hbg, h3 b hbg], g4, by simpa using g5, ?_, ⟨g7.os.trans h5.os, g7.tape.trans h5.tape, g7.output.trans h5.output⟩⟩
  ·simp only [storeCells, Sem.run_bind, add_eq, h1, Result.andThen, g1]
  ·intro j
   rw [g6 j]
   by_cases hj : j = o + i
   ·subst hj
    rw [if_neg (by omega), if_pos (by simp)]
    have hlt : o + i < c.size := by omega
    simp [hlt]
   ·simp only [List.length_cons]
    by_cases h : o + (i + 1) ≤ j ∧ j < o + (i + 1) + vs.length
    ·rw [if_pos h, if_pos (by omega)]
     rw [show j - (o + i) = (j - (o + (i + 1))) + 1 by omega, List.getElem?_cons_succ]
    ·rw [if_neg h, if_neg (by omega)]
     rw [Array.getElem?_setIfInBounds_ne (by omega)]
theorem getElem?_splice (l vs : List Value) (o j : Nat) (h : o + vs.length ≤ l.length) :
 (splice l o vs)[j]? = if o ≤ j ∧ j < o + vs.length then vs[j - o]? else l[j]? := by
 unfold splice
 by_cases h1 : j < o
 ·rw [if_neg (by omega), List.append_assoc, List.getElem?_append_left (by simp; omega), List.getElem?_take, if_pos h1]
 ·by_cases h2 : j < o + vs.length
  ·rw [if_pos ⟨by omega, h2⟩, List.append_assoc, List.getElem?_append_right (by simp; omega), List.getElem?_append_left (by simp; omega)]
   congr 1; simp; omega
  ·rw [if_neg (by omega), List.getElem?_append_right (by simp; omega), List.getElem?_drop]
   congr 1; simp; omega
theorem length_splice (l vs : List Value) (o : Nat) (h : o + vs.length ≤ l.length) : (splice l o vs).length = l.length := by
 unfold splice; simp; omega
theorem LRel.all_one {l l' : List Value} (r : LRel α l l') (h : l.all one = true) : l'.all one = true := by
 rw [List.all_eq_true] at h ⊢
 intro v' hv'
 obtain ⟨i, hi⟩ := List.getElem?_of_mem hv'
 have hlt := (List.getElem?_eq_some_iff.1 hi).1
 have hlt' : i < l.length := by have := r.1; omega
 have := r.2 i l[i] v' (List.getElem?_eq_getElem hlt') hi
 rw [← this.one]
 exact h _ (List.getElem_mem hlt')
theorem Rel.storeN (h : Rel α S w) {i o : Nat} {l : Loc} (hl : α i = some l) {vs vs' : List Value} (hr : LRel α vs vs') {S' : St} (hv : S.storeN i o vs = some S') :
 ∃ w', (storeCells ⟨l.blk, l.off + o, none⟩ vs').run P w = .ok () w' ∧ Next α S w α S' w' := by
 unfold St.storeN at hv
 split at hv
 ·rename_i cs esz hi
  split at hv
  ·rename_i hc
   obtain ⟨hlen, hall⟩ := hc
   cases hv
   obtain ⟨he, c, e, fr, hb, hsz, hcl, hfr, hcells⟩ := h.cells hl hi
   have hfr := hfr rfl
   obtain ⟨w', c', h1, h2, h3, h4, h5, h6, h7⟩ := run_storeCells (P := P) l.blk (l.off + o) e fr vs' 0 c w hb (by have := hr.1; omega) hfr.1 (hr.all_one hall)
   refine ⟨w', h1, Next.write h hi rfl hl _ rfl h3 h2 h7 ⟨he, c', e, fr, h4, by omega, by rw [length_splice _ _ _ hlen]; exact hcl, fun _ => by rw [h5]; exact hfr, ?_⟩⟩
   intro j v hj
   rw [getElem?_splice _ _ _ _ hlen] at hj
   rw [h6]
   by_cases hin : o ≤ j ∧ j < o + vs.length
   ·rw [if_pos hin] at hj
    rw [if_pos (by have := hr.1; omega)]
    obtain ⟨v', g1, g2⟩ := hr.get hj
    exact ⟨v', by rw [← g1]; congr 1; omega, g2⟩
   ·rw [if_neg hin] at hj
    rw [if_neg (by have := hr.1; omega)]
    exact hcells j v hj
  ·cases hv
 ·cases hv
theorem Rel.store1 (h : Rel α S w) {i o : Nat} {l : Loc} (hl : α i = some l) {v v' : Value} (hr : VRel α v v') {S' : St} (hv : S.store1 i o v = some S') :
 ∃ w', (storeCells ⟨l.blk, l.off + o, none⟩ [v']).run P w = .ok () w' ∧ Next α S w α S' w' := by
 have : S.storeN i o [v] = some S' := by
  unfold St.store1 at hv
  unfold St.storeN
  split at hv
  ·rename_i cs esz hi
   split at hv
   ·rename_i hc
    cases hv
    simp only [List.length_singleton, List.all_cons, List.all_nil, Bool.and_true]
    rw [if_pos ⟨by omega, hc.2⟩]
    congr 3
    apply List.ext_getElem?
    intro j
    rw [getElem?_splice _ _ _ _ (by simp; omega), List.getElem?_set]
    by_cases hj : o = j
    ·subst hj; simp [hc.1]
    ·rw [if_neg hj, if_neg (by simp; omega)]
   ·cases hv
  ·cases hv
 exact h.storeN hl (LRel.cons hr (LRel.nil α)) this
theorem Rel.row (h : Rel α S w) {cs : List Value} {esz : Nat} {S' : St} (hv : S.row cs esz = some S') {cs' : List Value} (hr : LRel α cs cs') (spare : List Value) (t : TypeId) {w' : World} (fr : Nat × Nat)
 (hw : w'.heap = w.heap.push (.cells (cs' ++ spare).toArray t fr)) (k : Alike0 w w') (hfr : Free (cs'.length + spare.length) fr) :
 Next α S w (α.upd S.next ⟨w.heap.size, 0, cs'.length + spare.length, esz⟩) S' w' := by
 unfold St.row at hv
 split at hv
 ·cases hv
  refine Next.new h _ rfl _ _ _ hw k ⟨rfl, (cs' ++ spare).toArray, t, fr, ?_, by simp, by have := hr.1; simp only; omega, fun _ => by simpa using hfr, ?_⟩
  ·rw [hw]; simp
  ·intro j v hj
   obtain ⟨v', h1, h2⟩ := hr.get hj
   refine ⟨v', ?_, h2.mono (h.ext _)⟩
   have hlt : j < cs'.length := (List.getElem?_eq_some_iff.1 h1).1
   simp only [Nat.zero_add]
   rw [List.getElem?_toArray, List.getElem?_append_left hlt]
   exact h1
 ·cases hv
end
section
variable {α : Place} {S : St} {w : World} {P : Program}
theorem run_pure {β : Type} (a : β) : (pure a : Sem β).run P w = .ok a w := rfl
theorem run_info {t : TypeId} {i : TypeInfo} (h : P.info? t = some i) (w : World) : (typeInfo t).run P w = .ok i w := by
 simp [typeInfo, program, Sem.run, bind, Sem.bind, pure, h]
theorem run_sizeOf {t : TypeId} {n : Nat} (h : sizeT P t = some n) (w : World) : (sizeOf t).run P w = .ok n w := by
 unfold sizeT at h
 cases hi : P.info? t with
 | none => rw [hi] at h; cases h
 | some i => rw [hi] at h; simp at h; simp [sizeOf, Sem.run_bind, run_info hi, Result.andThen, h]
theorem run_isAgg {t : TypeId} {b : Bool} (h : aggT P t = some b) (w : World) : (isAgg t).run P w = .ok b w := by
 unfold aggT at h
 cases hu : P.underlying t with
 | none => rw [hu] at h; cases h
 | some d =>
  rw [hu] at h
  unfold isAgg
  simp only [Sem.run_bind, run_underlying hu, Result.andThen]
  cases d <;> simp_all
theorem zeroT_some {t : TypeId} {z : Value} (h : zeroT P t = some z) : ∃ i, P.info? t = some i ∧ i.zero = some z ∧ plain z = true := by
 unfold zeroT at h
 cases hi : P.info? t with
 | none => rw [hi] at h; cases h
 | some i =>
  rw [hi] at h
  cases hz : i.zero with
  | none => simp [hz] at h
  | some v =>
   simp only [hz] at h
   split at h
   ·cases h; exact ⟨i, rfl, hz, by assumption⟩
   ·cases h
theorem run_zero {t : TypeId} {z : Value} (h : zeroT P t = some z) (w : World) : (zeroValue t).run P w = .ok z w := by
 obtain ⟨i, hi, hz, _⟩ := zeroT_some h
 simp [zeroValue, Sem.run_bind, run_info hi, Result.andThen, hz]
theorem zero_rel {t : TypeId} {z : Value} (h : zeroT P t = some z) (α : Place) : VRel α z z := by
 obtain ⟨_, _, _, hp⟩ := zeroT_some h
 exact plain_rel α z hp
theorem ptr_inv {i o : Nat} {v : Value} (h : VRel α (.pointer (some ⟨i, o, none⟩)) v) : ∃ l, α i = some l ∧ v = .pointer (some ⟨l.blk, l.off + o, none⟩) := by
 cases h with
 | ptr i o l h => exact ⟨l, h, rfl⟩
theorem xload_sound (h : Rel α S w) {t : TypeId} {a a' v : Value} (hx : xload P S t a = some v) (ha : VRel α a a') :
 ∃ v', (Instr.loadAt t a').run P w = .ok v' w ∧ VRel α v v' := by
 unfold xload at hx
 split at hx
 ·rename_i i o
  obtain ⟨l, hl, rfl⟩ := ptr_inv ha
  split at hx
  ·rename_i hagg
   split at hx
   ·rename_i n hn
    split at hx
    ·rename_i vs hvs
     cases hx
     obtain ⟨vs', hr, hlen, hrun⟩ := h.loadN (P := P) hl hvs
     refine ⟨.agg vs'.toArray, ?_, hr.agg⟩
     simp only [Instr.loadAt, Instr.sureAddr, loadVar, Sem.run_bind, Sem.run_pure, Result.andThen, run_isAgg hagg, if_true, run_sizeOf hn, hrun]
    ·cases hx
   ·cases hx
  ·rename_i hagg
   obtain ⟨v', hr, hrun⟩ := h.load1 (P := P) hl hx
   refine ⟨v', ?_, hr⟩
   simp only [Instr.loadAt, Instr.sureAddr, loadVar, Sem.run_bind, Sem.run_pure, Result.andThen, run_isAgg hagg, hrun]
   simp [hrun]
  ·cases hx
 ·cases hx
theorem VRel.size_cells {v v' : Value} (r : VRel α v v') : v.cells.size = v'.cells.size := by simpa using r.cells.1
theorem xstore_sound (h : Rel α S w) {t : TypeId} {a a' v v' : Value} {S' : St} (hx : xstore P S t a v = some S') (ha : VRel α a a') (hv : VRel α v v') :
 ∃ w', (Instr.storeAt t a' v').run P w = .ok () w' ∧ Next α S w α S' w' := by
 unfold xstore at hx
 split at hx
 ·rename_i i o
  obtain ⟨l, hl, rfl⟩ := ptr_inv ha
  have key : ∀ (n : Nat), sizeT P t = some n → v'.cells.size = n →
   (Instr.storeAt t (.pointer (some ⟨l.blk, l.off + o, none⟩)) v').run P w = (storeCells ⟨l.blk, l.off + o, none⟩ v'.cells.toList).run P w := by
   intro n hn hs
   simp only [Instr.storeAt, Instr.sureAddr, storeVar, Sem.run_bind, Sem.run_pure, Result.andThen, run_sizeOf hn]
   rw [if_neg (by omega)]
  split at hx
  ·rename_i cs
   split at hx
   ·rename_i hs
    have hc := hv.cells
    obtain ⟨w', hrun, hnext⟩ := h.storeN (P := P) hl hc hx
    exact ⟨w', by rw [key _ hs (by have := hv.size_cells; simpa [Value.cells] using this.symm)]; exact hrun, hnext⟩
   ·cases hx
  ·rename_i hna
   split at hx
   ·rename_i hs
    obtain ⟨w', hrun, hnext⟩ := h.store1 (P := P) hl hv hx
    have hcell : v'.cells = #[v'] := by
     cases hv <;> first | rfl | (exact absurd rfl (hna _))
    exact ⟨w', by rw [key _ hs (by rw [hcell]; rfl), hcell]; exact hrun, hnext⟩
   ·cases hx
 ·cases hx
theorem row_next {cs : List Value} {esz : Nat} {S' : St} (h : S.row cs esz = some S') : S' = S.new (.row cs esz false) := by
 unfold St.row at h; split at h
 ·cases h; rfl
 ·cases h
theorem Rel.newRow (h : Rel α S w) {cs cs' : List Value} {esz : Nat} {S' : St} (hx : S.row cs esz = some S') (hr : LRel α cs cs') (t : TypeId) :
 ∃ β w', (newRow t cs'.toArray).run P w = .ok ⟨w.heap.size, 0, none⟩ w' ∧ Next α S w β S' w' ∧ β S.next = some ⟨w.heap.size, 0, cs'.length, esz⟩ := by
 refine ⟨_, { w with heap := w.heap.push (.cells cs'.toArray t) }, rfl, h.row hx hr [] t (0, 0) (by simp) ⟨rfl, rfl, rfl⟩ ⟨fun o _ => by simp, Nat.le_refl _⟩, ?_⟩
 rw [Place.upd_same]; simp
theorem xnewVar_sound (h : Rel α S w) {t : TypeId} {v v' u : Value} {S' : St} (hx : xnewVar P S t v = some (u, S')) (hv : VRel α v v') :
 ∃ β w' a, (newVar t v').run P w = .ok a w' ∧ Next α S w β S' w' ∧ VRel β u (.pointer (some a)) := by
 unfold xnewVar at hx
 split at hx
 ·rename_i S1 hrow
  cases hx
  obtain ⟨β, w', h1, h2, h3⟩ := h.newRow (P := P) hrow hv.cells t
  refine ⟨β, w', _, by simpa [newVar] using h1, h2, ?_⟩
  have := VRel.ptr (α := β) S.next 0 _ h3
  simpa using this
 ·cases hx
theorem xfieldAddr_sound {s : TypeId} {a a' v : Value} {f : Nat} (hx : xfieldAddr P s a f = some v) (ha : VRel α a a') :
 ∃ v', (Instr.fieldAt s a' f).run P w = .ok v' w ∧ VRel α v v' := by
 unfold xfieldAddr at hx
 split at hx
 ·rename_i i o
  obtain ⟨l, hl, rfl⟩ := ptr_inv ha
  split at hx
  ·rename_i fields hu
   split at hx
   ·rename_i fd hf
    split at hx
    ·cases hx
    ·rename_i n hn hs
     cases hx
     refine ⟨_, ?_, .ptr i (o + fd.offset) l hl⟩
     simp only [Instr.fieldAt, Instr.sureAddr, Sem.run_bind, run_underlying hu, Result.andThen, hf, Sem.run_pure, fieldPlace, run_sizeOf hs]
     rw [if_neg (by intro e; subst e; exact hn rfl)]
     simp [Sem.run_pure, add_eq, Nat.add_assoc]
    ·cases hx
   ·cases hx
  ·cases hx
 ·cases hx
theorem slice_inv {i o len cap : Nat} {v : Value} (h : VRel α (.slice (some ⟨i, o, none⟩) len cap) v) :
 (∃ l cap', α i = some l ∧ len ≤ cap ∧ cap ≤ cap' ∧ o + cap' * l.esz ≤ l.room ∧ v = .slice (some ⟨l.blk, l.off + o, none⟩) len cap') ∨
 (∃ a', len = 0 ∧ cap = 0 ∧ v = .slice (some a') 0 0) := by
 cases h with
 | slice i o len cap cap' l h hl hc hr => exact .inl ⟨l, cap', h, hl, hc, hr, rfl⟩
 | sliceEnd a a' => exact .inr ⟨a', rfl, rfl, rfl⟩
theorem xindexAddr_sound {t : TypeId} {x x' ix v : Value} (hx : xindexAddr P t x ix = some v) (ha : VRel α x x') :
 ∃ v', (Instr.indexAt t x' ix).run P w = .ok v' w ∧ VRel α v v' := by
 unfold xindexAddr at hx
 split at hx
 ·rename_i k i
  split at hx
  ·rename_i elem b o len cap hu
   split at hx
   ·rename_i hi
    split at hx
    ·rename_i s hs
     cases hx
     rcases slice_inv ha with ⟨l, cap', hl, h1, h2, h3, rfl⟩ | ⟨a', rfl, rfl, rfl⟩
     ·refine ⟨_, ?_, .ptr b (o + i.toNat * s) l hl⟩
      simp only [Instr.indexAt, asIntOf, Sem.run_bind, Sem.run_pure, Result.andThen, run_underlying hu, if_pos hi, run_sizeOf hs]
      simp [add_eq, Nat.add_assoc]
     ·simp at hi; omega
    ·cases hx
   ·cases hx
  ·rename_i n elem b o hu
   split at hx
   ·rename_i hi
    split at hx
    ·rename_i s hs
     cases hx
     obtain ⟨l, hl, rfl⟩ := ptr_inv ha
     refine ⟨_, ?_, .ptr b (o + i.toNat * s) l hl⟩
     simp only [Instr.indexAt, Instr.sureAddr, asIntOf, Sem.run_bind, Sem.run_pure, Result.andThen, run_underlying hu, if_pos hi, run_sizeOf hs]
     simp [add_eq, Nat.add_assoc]
    ·cases hx
   ·cases hx
  ·cases hx
 ·cases hx
theorem xpart_sound {t : TypeId} {cs : List Value} {cs' : Array Value} {off : Nat} {v : Value} (hx : xpart P t cs off = some v) (hr : LRel α cs cs'.toList) :
 ∃ v', (part t cs' off).run P w = .ok v' w ∧ VRel α v v' := by
 unfold xpart at hx
 split at hx
 ·rename_i hagg
  split at hx
  ·rename_i n hn
   cases hx
   refine ⟨.agg (cs'.extract off (off + n)), ?_, ?_⟩
   ·simp only [part, Sem.run_bind, run_isAgg hagg, Result.andThen, if_true, run_sizeOf hn, Sem.run_pure]
   ·have := ((hr.drop off).take n).agg
    have e : (cs'.extract off (off + n)) = ((cs'.toList.drop off).take n).toArray := by
     apply Array.ext'
     simp [List.take_drop, Array.toList_extract]
    rw [e]; exact this
  ·cases hx
 ·rename_i hagg
  obtain ⟨v', h1, h2⟩ := hr.get hx
  refine ⟨v', ?_, h2⟩
  rw [Array.getElem?_toList] at h1
  simp only [part, Sem.run_bind, run_isAgg hagg, Result.andThen, h1]
  simp [Sem.run_pure]
 ·cases hx
theorem agg_inv {cs : Array Value} {v : Value} (h : VRel α (.agg cs) v) : ∃ cs', v = .agg cs' ∧ LRel α cs.toList cs'.toList := by
 cases h with
 | agg a a' ha hr => exact ⟨a', rfl, LRel.of_arrays ha hr⟩
theorem tuple_inv {cs : Array Value} {v : Value} (h : VRel α (.tuple cs) v) : ∃ cs', v = .tuple cs' ∧ LRel α cs.toList cs'.toList := by
 cases h with
 | tuple a a' ha hr => exact ⟨a', rfl, LRel.of_arrays ha hr⟩
theorem xfield_sound {t : TypeId} {x x' v : Value} {f : Nat} (hx : xfield P t x f = some v) (ha : VRel α x x') :
 ∃ v', (Instr.field t x' f).run P w = .ok v' w ∧ VRel α v v' := by
 unfold xfield at hx
 split at hx
 ·rename_i cs fields hu
  obtain ⟨cs', rfl, hr⟩ := agg_inv ha
  split at hx
  ·rename_i fd hf
   obtain ⟨v', h1, h2⟩ := xpart_sound (w := w) hx hr
   refine ⟨v', ?_, h2⟩
   simp only [Instr.field, Sem.run_bind, run_underlying hu, Result.andThen, hf, asAgg, Sem.run_pure, h1]
  ·cases hx
 ·cases hx
theorem string_get (s : ByteArray) (i : Nat) : s[i]? = s.data.toList[i]? := by
 by_cases h : i < s.size
 ·rw [getElem?_pos s i h, List.getElem?_eq_getElem (by simpa using h)]
  rfl
 ·rw [getElem?_neg s i h, List.getElem?_eq_none (by simpa using h)]
theorem xindex_sound {t : TypeId} {x x' ix v : Value} (hx : xindex P t x ix = some v) (ha : VRel α x x') :
 ∃ v', (Instr.index t x' ix).run P w = .ok v' w ∧ VRel α v v' := by
 unfold xindex at hx
 split at hx
 ·rename_i k i
  split at hx
  ·rename_i len elem cs hu
   obtain ⟨cs', rfl, hr⟩ := agg_inv ha
   split at hx
   ·rename_i hi
    split at hx
    ·rename_i s hs
     obtain ⟨v', h1, h2⟩ := xpart_sound (w := w) hx hr
     refine ⟨v', ?_, h2⟩
     simp only [Instr.index, asIntOf, Sem.run_bind, Sem.run_pure, Result.andThen, run_underlying hu, if_pos hi, run_sizeOf hs, h1]
    ·cases hx
   ·cases hx
  ·rename_i s hu
   cases ha
   split at hx
   ·rename_i hi
    split at hx
    ·rename_i b hb
     cases hx
     refine ⟨_, ?_, .int _ _⟩
     simp only [Instr.index, asIntOf, Sem.run_bind, Sem.run_pure, Result.andThen, run_underlying hu, if_pos hi, string_get, hb]
    ·cases hx
   ·cases hx
  ·cases hx
 ·cases hx
end
section
variable {α : Place} {S : St} {w : World} {P : Program}
theorem foldl_set (off : Nat) : ∀ (vs : List Value) (k : Nat) (c : Array Value), off + k + vs.length ≤ c.size →
 (((vs.zipIdx k).foldl (fun cs p => cs.setIfInBounds (off + p.2) p.1) c).size = c.size ∧
  ∀ j : Nat, ((vs.zipIdx k).foldl (fun cs p => cs.setIfInBounds (off + p.2) p.1) c)[j]? = if off + k ≤ j ∧ j < off + k + vs.length then vs[j - (off + k)]? else c[j]?)
 | [], k, c, _ => ⟨rfl, fun j => by rw [if_neg (by simp only [List.length_nil]; omega)]; rfl⟩
 | v :: vs, k, c, h => by
  simp only [List.length_cons] at h
  obtain ⟨h1, h2⟩ := foldl_set off vs (k + 1) (c.setIfInBounds (off + k) v) (by simp; omega)
  simp only [List.zipIdx_cons, List.foldl_cons]
  refine ⟨by rw [h1]; simp, fun j => ?_⟩
  rw [h2 j]
  by_cases hj : j = off + k
  ·subst hj
   rw [if_neg (by omega), if_pos (by simp)]
   have hlt : off + k < c.size := by omega
   simp [hlt]
  ·simp only [List.length_cons]
   by_cases hin : off + (k + 1) ≤ j ∧ j < off + (k + 1) + vs.length
   ·rw [if_pos hin, if_pos (by omega), show j - (off + k) = (j - (off + (k + 1))) + 1 by omega, List.getElem?_cons_succ]
   ·rw [if_neg hin, if_neg (by omega), Array.getElem?_setIfInBounds_ne (by omega)]
theorem fill_step (off : Nat) (v : Value) (c : Array Value) (h : off + v.cells.size ≤ c.size) :
 (v.cells.zipIdx.foldl (fun cs p => cs.setIfInBounds (off + p.2) p.1) c).toList = splice c.toList off v.cells.toList := by
 have e : v.cells.zipIdx.foldl (fun cs p => cs.setIfInBounds (off + p.2) p.1) c = (v.cells.toList.zipIdx 0).foldl (fun cs p => cs.setIfInBounds (off + p.2) p.1) c := by
  rw [← Array.foldl_toList]
  congr 1
  simp
 obtain ⟨h1, h2⟩ := foldl_set off v.cells.toList 0 c (by simpa using h)
 rw [e]
 apply List.ext_getElem?
 intro j
 rw [Array.getElem?_toList, h2 j, getElem?_splice _ _ _ _ (by simpa using h)]
 simp
theorem LRel.splice {a a' b b' : List Value} (r : LRel α a a') (s : LRel α b b') (o : Nat) : LRel α (splice a o b) (splice a' o b') := by
 unfold Xe.splice
 refine ((r.take o).append s).append ?_
 rw [← s.1]; exact r.drop _
def PRel (α : Place) (l l' : List (Nat × Value)) : Prop := l.length = l'.length ∧ ∀ (i : Nat) p p', l[i]? = some p → l'[i]? = some p' → p.1 = p'.1 ∧ VRel α p.2 p'.2
theorem PRel.cons_inv {p : Nat × Value} {l : List (Nat × Value)} {l' : List (Nat × Value)} (h : PRel α (p :: l) l') : ∃ p' r', l' = p' :: r' ∧ p.1 = p'.1 ∧ VRel α p.2 p'.2 ∧ PRel α l r' := by
 cases l' with
 | nil => have := h.1; simp at this
 | cons p' r' =>
  have h0 := h.2 0 p p' rfl rfl
  exact ⟨p', r', rfl, h0.1, h0.2, by have := h.1; simpa using this, fun i a a' ha ha' => h.2 (i + 1) a a' (by simpa using ha) (by simpa using ha')⟩
theorem fill_sound (place : Nat → Option (Nat × Nat)) : ∀ (parts parts' : List (Nat × Value)) (cells out : List Value) (cells' : Array Value), PRel α parts parts' → LRel α cells cells'.toList →
 xfill place cells parts = some out → ∃ out', Instr.fill place cells' parts' = some out' ∧ LRel α out out'.toList
 | [], parts', cells, out, cells', hp, hr, hx => by
  have : parts' = [] := by have := hp.1; cases parts' <;> simp_all
  subst this
  simp only [xfill] at hx; cases hx
  exact ⟨cells', rfl, hr⟩
 | (i, v) :: rest, parts', cells, out, cells', hp, hr, hx => by
  obtain ⟨⟨i', v'⟩, r', rfl, h1, h2, h3⟩ := hp.cons_inv
  simp only at h1 h2
  subst h1
  simp only [xfill] at hx
  split at hx
  ·cases hx
  ·rename_i off size hpl
   split at hx
   ·cases hx
   ·rename_i hc
    have hs := h2.size_cells
    have hlen : cells.length = cells'.size := by have := hr.1; simpa using this
    have hb : ¬(v'.cells.size ≠ size ∨ off + v'.cells.size > cells'.size) := by rw [← hs, ← hlen]; omega
    obtain ⟨out', g1, g2⟩ := fill_sound place rest r' _ out (v'.cells.zipIdx.foldl (fun cs p => cs.setIfInBounds (off + p.2) p.1) cells') h3
     (by rw [fill_step _ _ _ (by omega)]; exact hr.splice h2.cells off) hx
    refine ⟨out', ?_, g2⟩
    simp only [Instr.fill, hpl]
    rw [if_neg (by simpa using hb)]
    exact g1
theorem places_mapM : ∀ (fs : List Field) (places : List (Nat × Nat)), xplaces P fs = some places →
 (fs.mapM fun f => do pure (f.offset, ← sizeOf f.type) : Sem (List (Nat × Nat))).run P w = .ok places w
 | [], places, h => by simp only [xplaces] at h; cases h; rfl
 | f :: r, places, h => by
  simp only [xplaces] at h
  split at h
  ·rename_i s l hs hl
   cases h
   have ih := places_mapM r l hl
   rw [List.mapM_cons]
   simp only [Sem.run_bind, run_sizeOf hs, Result.andThen, Sem.run_pure, ih]
  ·cases h
theorem xbuild_sound {t : TypeId} {parts : List (Nat × Value)} {parts' : Array (Nat × Value)} {v : Value} (hx : xbuild P t parts = some v) (hp : PRel α parts parts'.toList) :
 ∃ v', (Instr.build t parts').run P w = .ok v' w ∧ VRel α v v' := by
 unfold xbuild at hx
 split at hx
 ·rename_i z fields hz hu
  split at hx
  ·rename_i places hpl
   split at hx
   ·rename_i l hf
    cases hx
    obtain ⟨out', h1, h2⟩ := fill_sound (α := α) _ parts parts'.toList _ l z.cells hp (zero_rel hz α).cells hf
    refine ⟨.agg out', ?_, by have := h2.agg; simpa using this⟩
    simp only [Instr.build, Sem.run_bind, run_zero hz, Result.andThen, run_underlying hu]
    have hm := places_mapM (w := w) _ _ hpl
    have hm' : (fields.mapM fun f => do pure (f.offset, ← sizeOf f.type) : Sem (Array (Nat × Nat))).run P w = .ok places.toArray w := by
     rw [Array.mapM_eq_mapM_toList, map_eq_pure_bind, Sem.run_bind, hm]
     rfl
    rw [hm']
    simp only [List.getElem?_toArray, h1, Sem.run_pure]
   ·cases hx
  ·cases hx
 ·rename_i z n elem hz hu
  split at hx
  ·rename_i size hs
   split at hx
   ·rename_i l hf
    cases hx
    obtain ⟨out', h1, h2⟩ := fill_sound (α := α) _ parts parts'.toList _ l z.cells hp (zero_rel hz α).cells hf
    refine ⟨.agg out', ?_, by have := h2.agg; simpa using this⟩
    simp only [Instr.build, Sem.run_bind, run_zero hz, Result.andThen, run_underlying hu, run_sizeOf hs, h1, Sem.run_pure]
   ·cases hx
  ·cases hx
 ·cases hx
theorem length_zerosL (z : List Value) : ∀ n, (zerosL z n).length = n * z.length
 | 0 => by simp [zerosL]
 | n + 1 => by simp [zerosL, length_zerosL z n, Nat.succ_mul]; omega
theorem getElem?_zerosL (z : List Value) : ∀ (n j : Nat), j < n * z.length → (zerosL z n)[j]? = z[j % z.length]?
 | 0, j, h => by simp at h
 | n + 1, j, h => by
  have hz : 0 < z.length := by
   rcases Nat.eq_zero_or_pos z.length with e | e
   ·rw [e] at h; simp at h
   ·exact e
  simp only [zerosL]
  by_cases hj : j < z.length
  ·rw [List.getElem?_append_left hj, Nat.mod_eq_of_lt hj]
  ·have hsm := Nat.succ_mul n z.length
   rw [List.getElem?_append_right (by omega), getElem?_zerosL z n (j - z.length) (by simp only [Nat.succ_eq_add_one] at hsm; omega)]
   congr 1
   exact (Nat.mod_eq_sub_mod (by omega)).symm
theorem zerosL_rel {z : List Value} (h : LRel α z z) : ∀ n, LRel α (zerosL z n) (zerosL z n)
 | 0 => LRel.nil α
 | n + 1 => h.append (zerosL_rel h n)
theorem zeros_eq (z : Array Value) (n : Nat) : ((Array.range (n * z.size)).map fun i => z[i % z.size]!) = (zerosL z.toList n).toArray := by
 apply Array.ext'
 apply List.ext_getElem?
 intro j
 simp only [Array.toList_map, List.getElem?_map]
 by_cases hj : j < n * z.size
 ·have hz : 0 < z.size := by
   rcases Nat.eq_zero_or_pos z.size with e | e
   ·rw [e] at hj; simp at hj
   ·exact e
  have hm := Nat.mod_lt j hz
  rw [getElem?_zerosL _ _ _ (by simpa using hj)]
  rw [Array.toList_range, List.getElem?_range hj]
  simp only [Option.map_some, Array.length_toList, Array.getElem?_toList]
  rw [Array.getElem?_eq_getElem hm]
  simp [getElem!_def, Array.getElem?_eq_getElem hm]
 ·rw [List.getElem?_eq_none (l := zerosL z.toList n) (by rw [length_zerosL]; simpa using hj), List.getElem?_eq_none (by simpa using hj)]
  rfl
theorem xbuildSlice_sound (h : Rel α S w) {t : TypeId} {len : Nat} {parts : List (Nat × Value)} {parts' : Array (Nat × Value)} {v : Value} {S' : St}
 (hx : xbuildSlice P S t len parts = some (v, S')) (hp : PRel α parts parts'.toList) :
 ∃ β w' v', (Instr.buildSlice t len parts').run P w = .ok v' w' ∧ Next α S w β S' w' ∧ VRel β v v' := by
 unfold xbuildSlice at hx
 split at hx
 ·rename_i elem hu
  split at hx
  ·rename_i size z hs hz
   split at hx
   ·cases hx
   ·rename_i hc
    split at hx
    ·rename_i l hf
     split at hx
     ·rename_i S1 hrow
      cases hx
      have hzs : z.cells.size = size := by omega
      have hzr : LRel α (zerosL z.cells.toList len) (zerosL z.cells.toList len).toArray.toList := by simpa using zerosL_rel (zero_rel hz α).cells len
      obtain ⟨out', h1, h2⟩ := fill_sound (α := α) _ parts parts'.toList _ l _ hp hzr hf
      obtain ⟨β, w', g1, g2, g3⟩ := h.newRow (P := P) hrow h2 elem
      have hol : out'.size = len * size := by
       have hl := h2.1
       have : ∀ (place : Nat → Option (Nat × Nat)) (ps : List (Nat × Value)) (c o : List Value), xfill place c ps = some o → o.length = c.length := by
        intro place ps
        induction ps with
        | nil => intro c o e; simp only [xfill] at e; cases e; rfl
        | cons p r ih =>
         intro c o e
         obtain ⟨i, v⟩ := p
         simp only [xfill] at e
         split at e
         ·cases e
         ·split at e
          ·cases e
          ·rename_i off size _ hcc
           rw [ih _ _ e, length_splice _ _ _ (by simp; omega)]
       have := this _ _ _ _ hf
       rw [length_zerosL] at this
       simp at hl this
       rw [← hl, this, hzs]
      refine ⟨β, w', .slice (some ⟨w.heap.size, 0, none⟩) len len, ?_, g2, ?_⟩
      ·simp only [Instr.buildSlice, Sem.run_bind, run_underlying hu, Result.andThen, run_sizeOf hs]
       rw [if_neg (by omega)]
       have hpush : (if len * size = 0 then pure #[] else do pure (← zeroValue elem).cells : Sem (Array Value)).run P w = .ok (if len * size = 0 then #[] else z.cells) w := by
        split
        ·rfl
        ·simp only [Sem.run_bind, run_zero hz, Result.andThen, Sem.run_pure]
       have e : ((Array.range (len * size)).map fun i => (if len * size = 0 then #[] else z.cells)[i % (if len * size = 0 then (#[] : Array Value) else z.cells).size]!) = (zerosL z.cells.toList len).toArray := by
        by_cases h0 : len * size = 0
        ·have : len = 0 := by
          rcases Nat.mul_eq_zero.1 h0 with e | e
          ·exact e
          ·omega
         subst this
         simp [zerosL]
        ·simp only [h0, if_false]
         rw [← hzs]
         exact zeros_eq _ _
       simp only [Array.toArray_toList] at g1
       by_cases h0 : len * size = 0
       ·simp only [h0, if_true] at e ⊢
        rw [Sem.run_bind, Sem.run_pure]
        simp only [Result.andThen, e, h1]
        rw [Sem.run_bind, g1]
        rfl
       ·simp only [h0, if_false] at e ⊢
        rw [Sem.run_bind, run_zero hz]
        simp only [Result.andThen]
        rw [Sem.run_bind, Sem.run_pure]
        simp only [Result.andThen, e, h1]
        rw [Sem.run_bind, g1]
        rfl
      ·have := VRel.slice (α := β) S.next 0 len len len _ g3 (Nat.le_refl _) (Nat.le_refl _) (by simp [hol])
       simpa using this
     ·cases hx
    ·cases hx
  ·cases hx
 ·cases hx
end
section
variable {α : Place} {S : St} {w : World} {P : Program}
theorem bytesT_info {t : TypeId} {b : Nat} (h : bytesT P t = some b) : ∃ i, P.info? t = some i ∧ i.bytes = b := by
 unfold bytesT at h
 cases hi : P.info? t with
 | none => rw [hi] at h; cases h
 | some i => rw [hi] at h; exact ⟨i, rfl, by simpa using h⟩
theorem run_askRoom (n : Nat) (w : World) : (askRoom n).run P w = .ok () w := by
 unfold askRoom; split <;> rfl
theorem xmakeSlice_sound (h : Rel α S w) {t : TypeId} {l c v : Value} {S' : St} (hx : xmakeSlice P S t l c = some (v, S')) :
 ∃ β w' v', (Instr.makeSlice t l c).run P w = .ok v' w' ∧ Next α S w β S' w' ∧ VRel β v v' := by
 unfold xmakeSlice at hx
 split at hx
 ·rename_i k len k' cap
  split at hx
  ·rename_i elem hu
   split at hx
   ·rename_i size bytes z hs hb hz
    split at hx
    ·rename_i hc
     obtain ⟨hl, hcap, h0, hle, hbytes, hs0, hzs⟩ := hc
     split at hx
     ·rename_i S1 hrow
      cases hx
      obtain ⟨i, hi, hib⟩ := bytesT_info hb
      have hzr : LRel α (zerosL z.cells.toList cap.toNat) (zerosL z.cells.toList cap.toNat) := zerosL_rel (zero_rel hz α).cells _
      obtain ⟨β, w', g1, g2, g3⟩ := h.newRow (P := P) hrow hzr elem
      refine ⟨β, w', .slice (some ⟨w.heap.size, 0, none⟩) len.toNat cap.toNat, ?_, g2, ?_⟩
      ·simp only [Instr.makeSlice, asInt, asIntOf, Sem.run_bind, run_underlying hu, Result.andThen, Sem.run_pure, run_info hi, hl, hcap, hib]
       have hnl : ¬((decide (cap < 0) || decide ((bytes : Int) * cap > 2 ^ 48)) || decide (len < 0) || decide (len > cap)) = true := by
        simp; omega
       rw [if_neg hnl]
       simp only [Sem.run_bind, run_askRoom, Result.andThen, run_sizeOf hs]
       have e : ((Array.range (cap.toNat * size)).map fun i => z.cells[i % z.cells.size]!) = (zerosL z.cells.toList cap.toNat).toArray := by
        rw [← hzs]; exact zeros_eq _ _
       by_cases hn : cap.toNat * size = 0
       ·have : cap.toNat = 0 := by
         rcases Nat.mul_eq_zero.1 hn with e | e
         ·exact e
         ·omega
        rw [this] at g1 ⊢
        simp only [zerosL] at g1
        simp only [Nat.zero_mul, if_true, Array.range_zero', Array.map_empty]
        rw [Sem.run_bind, Sem.run_pure]
        simp only [Result.andThen]
        rw [Sem.run_bind, g1]
        rfl
       ·rw [if_neg hn, Sem.run_bind, run_zero hz]
        simp only [Result.andThen]
        rw [Sem.run_bind, Sem.run_pure]
        simp only [Result.andThen, e]
        rw [Sem.run_bind, g1]
        rfl
      ·have := VRel.slice (α := β) S.next 0 len.toNat cap.toNat cap.toNat _ g3 (by omega) (Nat.le_refl _) (by simp [length_zerosL, hzs])
       simpa using this
     ·cases hx
    ·cases hx
   ·cases hx
  ·cases hx
 ·cases hx
theorem bounds_run {isSlice : Bool} {len cap cap' : Nat} {lo hi mx : Option Value} {l h m : Nat} (hb : xbounds len cap lo hi mx = some (l, h, m)) (hc : cap ≤ cap') (hl : len ≤ cap) (w : World) :
 ∃ m', (Instr.sliceBounds isSlice len cap' lo hi mx).run P w = .ok (l, h, m') w ∧ m ≤ m' ∧ m' ≤ cap' ∧ l ≤ h ∧ h ≤ m := by
 unfold xbounds at hb
 simp only at hb
 cases mx with
 | none =>
  simp only at hb
  cases hi with
  | none =>
   simp only at hb
   cases lo with
   | none =>
    simp only [Option.some.injEq, Prod.mk.injEq] at hb
    obtain ⟨rfl, rfl, rfl⟩ := hb
    exact ⟨cap', by simp [Instr.sliceBounds, Sem.run_pure], hc, Nat.le_refl _, Nat.zero_le _, hl⟩
   | some v =>
    cases v with
    | int k i =>
     simp only at hb
     split at hb
     ·cases hb
     ·rename_i l' hl'
      split at hl'
      ·rename_i hcond
       cases hl'
       simp only [Option.some.injEq, Prod.mk.injEq] at hb
       obtain ⟨rfl, rfl, rfl⟩ := hb
       exact ⟨cap', by simp [Instr.sliceBounds, Instr.sliceBound, asIntOf, Sem.run_bind, Sem.run_pure, Result.andThen, hcond], hc, Nat.le_refl _, by omega, hl⟩
      ·cases hl'
    | _ => simp at hb
  | some vh =>
   cases vh with
   | int kh ih =>
    simp only at hb
    split at hb
    ·cases hb
    ·rename_i h' hh'
     split at hh'
     ·rename_i hch
      cases hh'
      have hch' : 0 ≤ ih ∧ ih ≤ (cap' : Int) := by omega
      cases lo with
      | none =>
       simp only [Option.some.injEq, Prod.mk.injEq] at hb
       obtain ⟨rfl, rfl, rfl⟩ := hb
       exact ⟨cap', by simp [Instr.sliceBounds, Instr.sliceBound, asIntOf, Sem.run_bind, Sem.run_pure, Result.andThen, hch'], hc, Nat.le_refl _, Nat.zero_le _, by omega⟩
      | some v =>
       cases v with
       | int k i =>
        simp only at hb
        split at hb
        ·cases hb
        ·rename_i l' hl'
         split at hl'
         ·rename_i hcond
          cases hl'
          simp only [Option.some.injEq, Prod.mk.injEq] at hb
          obtain ⟨rfl, rfl, rfl⟩ := hb
          refine ⟨cap', ?_, hc, Nat.le_refl _, by omega, by omega⟩
          simp [Instr.sliceBounds, Instr.sliceBound, asIntOf, Sem.run_bind, Sem.run_pure, Result.andThen, hch']
          rw [if_pos (by omega)]
         ·cases hl'
       | _ => simp at hb
     ·cases hh'
   | _ => simp at hb
 | some vm =>
  cases vm with
  | int km im =>
   simp only at hb
   split at hb
   ·cases hb
   ·rename_i m' hm'
    split at hm'
    ·rename_i hcm
     cases hm'
     have hcm' : 0 ≤ im ∧ im ≤ (cap' : Int) := by omega
     cases hi with
     | none => simp at hb
     | some vh =>
      cases vh with
      | int kh ih =>
       simp only at hb
       split at hb
       ·cases hb
       ·rename_i h' hh'
        split at hh'
        ·rename_i hch
         cases hh'
         cases lo with
         | none =>
          simp only [Option.some.injEq, Prod.mk.injEq] at hb
          obtain ⟨rfl, rfl, rfl⟩ := hb
          refine ⟨im.toNat, ?_, Nat.le_refl _, by omega, Nat.zero_le _, by omega⟩
          have hch2 : 0 ≤ ih ∧ ih ≤ ((im.toNat : Nat) : Int) := hch
          simp [Instr.sliceBounds, Instr.sliceBound, asIntOf, Sem.run_bind, Sem.run_pure, Result.andThen, hcm']
          rw [if_pos (by omega)]
         | some v =>
          cases v with
          | int k i =>
           simp only at hb
           split at hb
           ·cases hb
           ·rename_i l' hl'
            split at hl'
            ·rename_i hcond
             cases hl'
             simp only [Option.some.injEq, Prod.mk.injEq] at hb
             obtain ⟨rfl, rfl, rfl⟩ := hb
             refine ⟨im.toNat, ?_, Nat.le_refl _, by omega, by omega, by omega⟩
             simp [Instr.sliceBounds, Instr.sliceBound, asIntOf, Sem.run_bind, Sem.run_pure, Result.andThen, hcm']
             rw [if_pos (by omega)]
             simp [Sem.run_pure]
             rw [if_pos (by omega)]
            ·cases hl'
          | _ => simp at hb
        ·cases hh'
      | _ => simp at hb
    ·cases hm'
  | _ => simp at hb
theorem piece_rel {b o s l h m m' len' : Nat} {loc : Loc} (hb : α b = some loc) (he : loc.esz = s) (hlh : l ≤ h) (hhm : h ≤ m) (hmm : m ≤ m') (hr : o + m' * s ≤ loc.room) :
 VRel α (.slice (some ⟨b, o + l * s, none⟩) (h - l) (m - l)) (.slice (some (if m' = l then ⟨loc.blk, loc.off + o, none⟩ else (⟨loc.blk, loc.off + o, none⟩ : Addr).add (l * s))) (h - l) (m' - l)) := by
 by_cases e : m' = l
 ·subst e
  have h1 : h - m' = 0 := by omega
  have h2 : m - m' = 0 := by omega
  rw [h1, h2, Nat.sub_self]
  exact .sliceEnd _ _
 ·rw [if_neg e, add_eq, Nat.add_assoc]
  refine .slice b (o + l * s) (h - l) (m - l) (m' - l) loc hb (by omega) (by omega) ?_
  rw [he, Nat.add_assoc, ← Nat.add_mul]
  rw [show l + (m' - l) = m' by omega]
  exact hr
theorem nil_slice_inv {n c : Nat} {v : Value} (h : VRel α (.slice none n c) v) : n = 0 ∧ c = 0 ∧ v = .slice none 0 0 := by
 cases h; exact ⟨rfl, rfl, rfl⟩
theorem string_take_drop (s : ByteArray) (l h : Nat) : s.extract l h = ⟨((s.data.toList.take h).drop l).toArray⟩ := by
 apply ByteArray.ext
 apply Array.ext'
 rw [ByteArray.data_extract, Array.toList_extract, List.drop_take]
theorem xslice_sound (h : Rel α S w) {t : TypeId} {x x' v : Value} {lo hi mx : Option Value} (hx : xslice P S t x lo hi mx = some v) (ha : VRel α x x') :
 ∃ v', (Instr.sliceAt t x' lo hi mx).run P w = .ok v' w ∧ VRel α v v' := by
 unfold xslice at hx
 split at hx
 ·rename_i s hu
  cases ha
  split at hx
  ·cases hx
  ·rename_i hmx
   split at hx
   ·rename_i l hh m hb
    cases hx
    obtain ⟨m', hrun, _, _, hlh, _⟩ := bounds_run (P := P) (isSlice := false) hb (Nat.le_refl _) (Nat.le_refl _) w
    have hsz : s.data.toList.length = s.size := by simp
    rw [hsz] at hrun
    have hmn : mx = none := by cases mx <;> simp_all
    subst hmn
    refine ⟨.string (s.extract l hh), ?_, by rw [string_take_drop]; exact .string _⟩
    simp only [Instr.sliceAt, Instr.slice, Sem.run_bind, run_underlying hu, Result.andThen, Option.isSome_none, Bool.false_eq_true, if_false, hrun, Sem.run_pure]
   ·cases hx
 ·rename_i e hu
  obtain ⟨_, _, rfl⟩ := nil_slice_inv ha
  split at hx
  ·rename_i p s hb hs
   cases hx
   obtain ⟨l, hh, m⟩ := p
   obtain ⟨m', hrun, h1, h2, h3, h4⟩ := bounds_run (P := P) (isSlice := true) hb (Nat.le_refl _) (Nat.le_refl _) w
   have : m' = 0 := by omega
   have : l = 0 := by omega
   have : hh = 0 := by omega
   subst_vars
   refine ⟨.slice none 0 0, ?_, .sliceNil⟩
   simp only [Instr.sliceAt, Instr.slice, Sem.run_bind, run_underlying hu, Result.andThen, hrun, run_sizeOf hs, Sem.run_pure]
   simp
  ·cases hx
 ·rename_i elem b o len cap hu
  split at hx
  ·rename_i l hh m s cs esz ro hb hs hg
   split at hx
   ·rename_i hc
    obtain ⟨rfl, hs0⟩ := hc
    cases hx
    obtain ⟨loc, hloc, hent⟩ := h.ent _ _ hg
    obtain ⟨hesz, _⟩ := hent
    rcases slice_inv ha with ⟨l', cap', hl, h1, h2, h3, rfl⟩ | ⟨a', rfl, rfl, rfl⟩
    ·rw [hloc] at hl; cases hl
     obtain ⟨m', hrun, g1, g2, g3, g4⟩ := bounds_run (P := P) (isSlice := true) hb h2 h1 w
     refine ⟨_, ?_, piece_rel (len' := len) hloc hesz.symm g3 g4 g1 ?_⟩
     ·simp only [Instr.sliceAt, Instr.slice, Sem.run_bind, run_underlying hu, Result.andThen, hrun, run_sizeOf hs, Sem.run_pure]
      split <;> simp
     ·rw [hesz]
      have : m' * loc.esz ≤ cap' * loc.esz := Nat.mul_le_mul_right _ g2
      omega
    ·obtain ⟨m', hrun, g1, g2, g3, g4⟩ := bounds_run (P := P) (isSlice := true) hb (Nat.le_refl _) (Nat.le_refl _) w
     have e1 : m' = 0 := by omega
     have e2 : l = 0 := by omega
     have e3 : hh = 0 := by omega
     have e4 : m = 0 := by omega
     subst e1; subst e2; subst e3; subst e4
     refine ⟨.slice (some a') 0 0, ?_, .sliceEnd _ _⟩
     simp only [Instr.sliceAt, Instr.slice, Sem.run_bind, run_underlying hu, Result.andThen, hrun, run_sizeOf hs, Sem.run_pure]
     simp
   ·cases hx
  ·cases hx
 ·rename_i n elem b o hu
  obtain ⟨loc', hl, rfl⟩ := ptr_inv ha
  split at hx
  ·rename_i l hh m s cs esz ro hb hs hg
   split at hx
   ·rename_i hc
    obtain ⟨rfl, hs0, hroom⟩ := hc
    cases hx
    obtain ⟨loc, hloc, hent⟩ := h.ent _ _ hg
    obtain ⟨hesz, _, _, _, _, _, hcl, _⟩ := hent
    have e : loc = loc' := by rw [hloc] at hl; exact Option.some.inj hl
    subst e
    obtain ⟨m', hrun, g1, g2, g3, g4⟩ := bounds_run (P := P) (isSlice := false) hb (Nat.le_refl _) (Nat.le_refl _) w
    refine ⟨_, ?_, piece_rel (len' := n) hloc hesz.symm g3 g4 g1 ?_⟩
    ·simp only [Instr.sliceAt, Instr.sureAddr, Sem.run_bind, run_underlying hu, Result.andThen, hrun, run_sizeOf hs, Sem.run_pure]
    ·rw [hesz] at hroom ⊢
     have : m' * loc.esz ≤ n * loc.esz := Nat.mul_le_mul_right _ g2
     omega
   ·cases hx
  ·cases hx
 ·rename_i arr b o hu
  split at hx
  ·rename_i n elem hu2
   obtain ⟨loc', hl, rfl⟩ := ptr_inv ha
   split at hx
   ·rename_i l hh m s cs esz ro hb hs hg
    split at hx
    ·rename_i hc
     obtain ⟨rfl, hs0, hroom⟩ := hc
     cases hx
     obtain ⟨loc, hloc, hent⟩ := h.ent _ _ hg
     obtain ⟨hesz, _, _, _, _, _, hcl, _⟩ := hent
     have e : loc = loc' := by rw [hloc] at hl; exact Option.some.inj hl
     subst e
     obtain ⟨m', hrun, g1, g2, g3, g4⟩ := bounds_run (P := P) (isSlice := false) hb (Nat.le_refl _) (Nat.le_refl _) w
     refine ⟨_, ?_, piece_rel (len' := n) hloc hesz.symm g3 g4 g1 ?_⟩
     ·simp only [Instr.sliceAt, Instr.slice, asAddr, Sem.run_bind, run_underlying hu, run_underlying hu2, Result.andThen, hrun, run_sizeOf hs, Sem.run_pure]
     ·rw [hesz] at hroom ⊢
      have : m' * loc.esz ≤ n * loc.esz := Nat.mul_le_mul_right _ g2
      omega
    ·cases hx
   ·cases hx
  ·cases hx
 ·cases hx
end
section
variable {α : Place} {S : St} {w : World} {P : Program}
theorem beqBytes_eq : ∀ a b : List UInt8, beqBytes a b = (a == b)
 | [], [] => rfl
 | [], b :: y => rfl
 | a :: x, [] => rfl
 | a :: x, b :: y => by
  simp only [beqBytes, beqBytes_eq x y]
  rw [Bool.eq_iff_iff]
  simp [UInt8.toNat_inj]
theorem lessL_eq : ∀ a b : List UInt8, lessL a b = Op.bytesLess a b
 | [], [] => rfl
 | [], b :: y => rfl
 | a :: x, [] => rfl
 | a :: x, b :: y => by
  simp only [lessL, Op.bytesLess, lessL_eq x y]
  rw [Bool.eq_iff_iff]
  simp [UInt8.lt_iff_toNat_lt, UInt8.toNat_inj]
theorem part_fields {d : Nat} {D : Nat} (ih : ∀ t x y b x' y', xeq P d t x y = some b → VRel α x x' → VRel α y y' → ∀ w, (Op.equalIn D t x' y').run P w = .ok b w) :
 ∀ (fs : List Field) (xs ys : Array Value) (xs' ys' : Array Value) (b : Bool), LRel α xs.toList xs'.toList → LRel α ys.toList ys'.toList →
  xeqF P (xeq P d) fs xs.toList ys.toList = some b → ∀ w, (Op.eqFields D xs' ys' fs).run P w = .ok b w
 | [], xs, ys, xs', ys', b, _, _, h, w => by simp only [xeqF] at h; cases h; rfl
 | f :: r, xs, ys, xs', ys', b, hx, hy, h, w => by
  simp only [xeqF] at h
  simp only [Op.eqFields]
  split at h
  ·rename_i hn
   rw [if_neg (by simpa using hn)]
   exact part_fields ih r xs ys xs' ys' b hx hy h w
  ·rename_i hn
   rw [if_pos hn]
   split at h
   ·rename_i a c ha hc
    obtain ⟨a', h1, h2⟩ := xpart_sound (w := w) ha hx
    obtain ⟨c', h3, h4⟩ := xpart_sound (w := w) hc hy
    split at h
    ·rename_i he
     simp only [Sem.run_bind, h1, Result.andThen, h3, ih _ _ _ _ _ _ he h2 h4 w, Bool.not_true, Bool.false_eq_true, if_false]
     exact part_fields ih r xs ys xs' ys' b hx hy h w
    ·rename_i he
     cases h
     simp only [Sem.run_bind, h1, Result.andThen, h3, ih _ _ _ _ _ _ he h2 h4 w, Bool.not_false, if_true]
     rfl
    ·cases h
   ·cases h
theorem isNone_of_rel_ptr {b : Option Addr} {v : Value} (h : VRel α (.pointer b) v) : ∃ b', v = .pointer b' ∧ b'.isNone = b.isNone := by
 cases h with
 | ptrNil => exact ⟨none, rfl, rfl⟩
 | ptr i o l h => exact ⟨_, rfl, rfl⟩
theorem isNone_of_rel_slice {b : Option Addr} {n c : Nat} {v : Value} (h : VRel α (.slice b n c) v) : ∃ b' n' c', v = .slice b' n' c' ∧ b'.isNone = b.isNone ∧ n' = n := by
 cases h with
 | sliceNil => exact ⟨none, 0, 0, rfl, rfl, rfl⟩
 | slice => exact ⟨_, _, _, rfl, rfl, rfl⟩
 | sliceEnd => exact ⟨_, _, _, rfl, rfl, rfl⟩
theorem isNone_of_rel_map {b : Option Nat} {v : Value} (h : VRel α (.map b) v) : ∃ b', v = .map b' ∧ b'.isNone = b.isNone := by
 cases h with
 | mapNil => exact ⟨none, rfl, rfl⟩
 | map i l h => exact ⟨_, rfl, rfl⟩
theorem xeq_sound : ∀ (d : Nat) (D : Nat), d ≤ D → ∀ (t : TypeId) (x y : Value) (b : Bool) (x' y' : Value), xeq P d t x y = some b → VRel α x x' → VRel α y y' →
 ∀ w, (Op.equalIn D t x' y').run P w = .ok b w
 | 0, _, _, t, x, y, b, x', y', h, _, _, _ => by simp only [xeq] at h; cases h
 | d + 1, 0, hD, _, _, _, _, _, _, _, _, _, _ => by omega
 | d + 1, D + 1, hD, t, x, y, b, x', y', h, hx, hy, w => by
  have ih := xeq_sound d D (by omega)
  unfold xeq at h
  split at h
  ·rename_i a c hu; cases h; cases hx; cases hy
   simp [Op.equalIn, run_underlying hu]
  ·rename_i k0 k a k' c hu
   split at h
   ·rename_i hk; cases h; cases hx; cases hy
    subst hk
    simp [Op.equalIn, run_underlying hu]
    rfl
   ·cases h
  ·rename_i a c hu; cases h; cases hx; cases hy
   rw [beqBytes_eq]
   simp only [Op.equalIn, Sem.run_bind, run_underlying hu, Result.andThen, Sem.run_pure]
   rw [beq_toListBytes, ByteArray.toList_eq, ByteArray.toList_eq]
  ·rename_i e c hu; cases h; cases hx
   obtain ⟨b', rfl, hb⟩ := isNone_of_rel_ptr hy
   simp only [Op.equalIn, Sem.run_bind, run_underlying hu, Result.andThen, Sem.run_pure, hb]
  ·rename_i e c hu; cases h; cases hy
   cases hx
   simp only [Op.equalIn, Sem.run_bind, run_underlying hu, Result.andThen, Sem.run_pure]
  ·rename_i e i o j q hu
   split at h
   ·cases h
   ·rename_i n hn hs
    split at h
    ·rename_i hij
     cases h
     subst hij
     obtain ⟨l, hl, rfl⟩ := ptr_inv hx
     obtain ⟨l', hl', rfl⟩ := ptr_inv hy
     rw [hl] at hl'; cases hl'
     simp only [Op.equalIn, Sem.run_bind, run_underlying hu, Result.andThen, run_sizeOf hs]
     rw [if_pos (by simpa using fun e => hn (by rw [e]))]
     simp only [sameAddr, beq_self_eq_true, if_true, Sem.run_pure]
     congr 1
     rw [Bool.eq_iff_iff]
     simp
    ·cases h
   ·cases h
  ·rename_i hu; cases h; cases hx; cases hy
   simp only [Op.equalIn, Sem.run_bind, run_underlying hu, Result.andThen, Sem.run_pure]
  ·rename_i hu; cases h; cases hx; cases hy
   simp only [Op.equalIn, Sem.run_bind, run_underlying hu, Result.andThen, Sem.run_pure]
  ·rename_i hu; cases h; cases hx; cases hy
   simp only [Op.equalIn, Sem.run_bind, run_underlying hu, Result.andThen, Sem.run_pure]
  ·rename_i m tx vx ty vy hu
   cases hx with
   | iface _ _ vx' hvx => cases hy with
    | iface _ _ vy' hvy =>
     split at h
     ·rename_i hne
      cases h
      simp only [Op.equalIn, Sem.run_bind, run_underlying hu, Result.andThen]
      rw [if_pos hne]
      rfl
     ·rename_i hne
      simp only [ne_eq, Decidable.not_not] at hne
      subst hne
      split at h
      ·rename_i i hi
       split at h
       ·rename_i hc
        have := ih _ _ _ _ _ _ h hvx hvy w
        simp only [Op.equalIn, Sem.run_bind, run_underlying hu, Result.andThen]
        rw [if_neg (by simp)]
        simp only [Sem.run_bind, run_info hi, Result.andThen, hc, Bool.not_true, Bool.false_eq_true, if_false]
        exact this
       ·cases h
      ·cases h
  ·rename_i fields xs ys hu
   split at h
   ·cases h
   ·rename_i hst
    obtain ⟨xs', rfl, hrx⟩ := agg_inv hx
    obtain ⟨ys', rfl, hry⟩ := agg_inv hy
    have hf : P.fieldsOf t = fields := by simp [Program.fieldsOf, hu]
    rw [run_equalIn_struct w D t xs' ys' (by rw [hf]; exact hu) (by simpa using hst), hf]
    exact part_fields ih _ _ _ _ _ _ hrx hry h w
  ·rename_i e n c a n' c' hu; cases h
   obtain ⟨_, _, rfl⟩ := nil_slice_inv hx
   obtain ⟨b', n2, c2, rfl, hb, _⟩ := isNone_of_rel_slice hy
   simp only [Op.equalIn, Sem.run_bind, run_underlying hu, Result.andThen, Sem.run_pure, hb]
  ·rename_i e a n c n' c' hu; cases h
   obtain ⟨_, _, rfl⟩ := nil_slice_inv hy
   obtain ⟨b', n2, c2, rfl, hb, _⟩ := isNone_of_rel_slice hx
   cases b' with
   | none => simp at hb
   | some a => simp only [Op.equalIn, Sem.run_bind, run_underlying hu, Result.andThen, Sem.run_pure]
  ·rename_i k e c hu; cases h; cases hx
   obtain ⟨b', rfl, hb⟩ := isNone_of_rel_map hy
   simp only [Op.equalIn, Sem.run_bind, run_underlying hu, Result.andThen, Sem.run_pure, hb]
  ·rename_i k e a hu; cases h; cases hy; cases hx
   simp only [Op.equalIn, Sem.run_bind, run_underlying hu, Result.andThen, Sem.run_pure]
  ·rename_i hu; cases h; cases hx; cases hy
   simp only [Op.equalIn, Sem.run_bind, run_underlying hu, Result.andThen, Sem.run_pure]
  ·rename_i hu; cases h; cases hx; cases hy
   simp only [Op.equalIn, Sem.run_bind, run_underlying hu, Result.andThen, Sem.run_pure]
  ·rename_i hu; cases h; cases hx; cases hy
   simp only [Op.equalIn, Sem.run_bind, run_underlying hu, Result.andThen, Sem.run_pure]
  ·cases h
theorem xint_sound {op : BinOp} {k : IntKind} {a b : Int} {v : Value} (t : TypeId) (hx : xint op k a b = some v) (hsh : op ≠ .shl) (hsr : op ≠ .shr) :
 (binOp op t (.int k a) (.int k b)).run P w = .ok v w ∧ VRel α v v := by
 cases op <;> simp only [xint] at hx
 case add => cases hx; exact ⟨by simp [binOp, Op.intArith, Sem.run_pure], .int _ _⟩
 case sub => cases hx; exact ⟨by simp [binOp, Op.intArith, Sem.run_pure], .int _ _⟩
 case mul => cases hx; exact ⟨by simp [binOp, Op.intArith, Sem.run_pure], .int _ _⟩
 case quo =>
  split at hx
  ·cases hx
  ·rename_i h; cases hx; exact ⟨by simp [binOp, Op.intDiv, h, Sem.run_pure], .int _ _⟩
 case rem =>
  split at hx
  ·cases hx
  ·rename_i h; cases hx; exact ⟨by simp [binOp, Op.intDiv, h, Sem.run_pure], .int _ _⟩
 case and => cases hx; exact ⟨by simp [binOp, Op.intBits, Sem.run_pure], .int _ _⟩
 case or => cases hx; exact ⟨by simp [binOp, Op.intBits, Sem.run_pure], .int _ _⟩
 case xor => cases hx; exact ⟨by simp [binOp, Op.intBits, Sem.run_pure], .int _ _⟩
 case andNot => cases hx; exact ⟨by simp [binOp, Op.intBits, Sem.run_pure], .int _ _⟩
 case eql => cases hx; exact ⟨by simp [binOp, Op.intCmp, Sem.run_pure]; rfl, .bool _⟩
 case neq =>
  cases hx
  exact ⟨by simp [binOp, Op.intCmp, Sem.run_pure, bne]; rfl, .bool _⟩
 case lss => cases hx; exact ⟨by simp [binOp, Op.intCmp, Sem.run_pure], .bool _⟩
 case leq => cases hx; exact ⟨by simp [binOp, Op.intCmp, Sem.run_pure], .bool _⟩
 case gtr => cases hx; exact ⟨by simp [binOp, Op.intCmp, Sem.run_pure], .bool _⟩
 case geq => cases hx; exact ⟨by simp [binOp, Op.intCmp, Sem.run_pure], .bool _⟩
 all_goals first | cases hx | exact absurd rfl hsh | exact absurd rfl hsr
theorem xshift_sound {op : BinOp} {k k' : IntKind} {a b : Int} {v : Value} (t : TypeId) (hx : xshift op k a b = some v) (ho : op = .shl ∨ op = .shr) :
 (binOp op t (.int k a) (.int k' b)).run P w = .ok v w ∧ VRel α v v := by
 unfold xshift at hx
 split at hx
 ·cases hx
 ·rename_i hb
  rcases ho with rfl | rfl
  ·simp only at hx; cases hx
   exact ⟨by simp [binOp, Op.shift, hb, Sem.run_pure], .int _ _⟩
  ·simp only at hx; cases hx
   exact ⟨by simp [binOp, Op.shift, hb, Sem.run_pure], .int _ _⟩
theorem append_bytes (x y : ByteArray) : x ++ y = ⟨(x.data.toList ++ y.data.toList).toArray⟩ := by
 apply ByteArray.ext
 apply Array.ext'
 simp [ByteArray.data_append]
theorem xstr_sound {op : BinOp} {a b : ByteArray} {v : Value} (t : TypeId) (hx : xstr op a b = some v) :
 (binOp op t (.string a) (.string b)).run P w = .ok v w ∧ VRel α v v := by
 unfold xstr at hx
 have e : binOp op t (.string a) (.string b) = Op.stringOp op a b := by cases op <;> simp [binOp]
 rw [e]
 cases op <;> simp only at hx <;> try (cases hx; done)
 case add =>
  split at hx
  ·rename_i h
   cases hx
   refine ⟨?_, .string _⟩
   simp only [Op.stringOp]
   have ha : a.data.toList.length = a.size := by simp
   have hb : b.data.toList.length = b.size := by simp
   rw [ha, hb] at h
   rw [if_neg (by simp [IntKind.max, IntKind.signed, IntKind.bits]; omega), append_bytes]
   rfl
  ·cases hx
 all_goals (cases hx; refine ⟨?_, .bool _⟩; simp only [Op.stringOp, ByteArray.toList_eq, beqBytes_eq, lessL_eq]; rfl)
theorem xbin_sound {op : BinOp} {t : TypeId} {xo yo : Operand} {x x' y y' v : Value} (hx : xbin P op t (isConst xo || isConst yo) x y = some v) (hrx : VRel α x x') (hry : VRel α y y') :
 ∃ v', (do eqGuard op t xo yo x' y'; binOp op t x' y' : Sem Value).run P w = .ok v' w ∧ VRel α v v' := by
 unfold xbin at hx
 have pass : ∀ (v' : Value), (eqGuard op t xo yo x' y').run P w = .ok () w → (binOp op t x' y').run P w = .ok v' w →
  (do eqGuard op t xo yo x' y'; binOp op t x' y' : Sem Value).run P w = .ok v' w := by
  intro v' h1 h2
  rw [Sem.run_bind, h1]
  exact h2
 have guard : eqOk P t (isConst xo || isConst yo) x y = true → (eqGuard op t xo yo x' y').run P w = .ok () w := by
  intro h
  by_cases hop : op = .eql ∨ op = .neq
  ·cases hrx <;> cases hry <;> try (rcases hop with rfl | rfl <;> rfl)
   ·simp only [eqOk, Bool.or_eq_true] at h
    rcases hop with rfl | rfl <;> cases xo <;> cases yo <;> first | rfl | (simp [isConst] at h)
   ·simp only [eqOk, Bool.not_eq_true'] at h
    rcases hop with rfl | rfl <;> simp [eqGuard, Sem.run_bind, run_program, h, Result.andThen, Sem.run_pure]
  ·cases op <;> first | rfl | (exact absurd (.inl rfl) hop) | (exact absurd (.inr rfl) hop)
 split at hx
 ·cases hrx; cases hry
  obtain ⟨h1, h2⟩ := xshift_sound (P := P) (w := w) (α := α) (k' := _) t hx (.inl rfl)
  exact ⟨v, pass v rfl h1, h2⟩
 ·cases hrx; cases hry
  obtain ⟨h1, h2⟩ := xshift_sound (P := P) (w := w) (α := α) (k' := _) t hx (.inr rfl)
  exact ⟨v, pass v rfl h1, h2⟩
 ·rename_i k a k' b h1 h2
  cases hrx; cases hry
  split at hx
  ·rename_i hk
   subst hk
   obtain ⟨g1, g2⟩ := xint_sound (P := P) (w := w) (α := α) t hx (fun e => h1 e) (fun e => h2 e)
   exact ⟨v, pass v (by cases op <;> rfl) g1, g2⟩
  ·cases hx
 ·cases hx
 ·cases hx
 ·cases hrx; cases hry
  obtain ⟨g1, g2⟩ := xstr_sound (P := P) (w := w) (α := α) t hx
  exact ⟨v, pass v (by cases op <;> rfl) g1, g2⟩
 ·rename_i hn1 hn2 hn3 hn4 hn5
  split at hx
  ·rename_i hg
   split at hx
   ·rename_i b hb
    cases hx
    have he := xeq_sound (P := P) (α := α) 12 Op.maxDepth (by decide) _ _ _ _ _ _ hb hrx hry w
    refine ⟨.bool b, pass _ (guard hg) ?_, .bool _⟩
    have e : binOp .eql t x' y' = (do pure (.bool (← Op.equal t x' y')) : Sem Value) := by
     cases hrx <;> cases hry <;> first | rfl | exact (hn4 _ _ _ _ rfl rfl).elim | exact (hn5 _ _ rfl rfl).elim | exact (hn2 _ _ rfl).elim | exact (hn3 _ _ _ rfl).elim
    rw [e, Sem.run_bind]
    unfold Op.equal
    rw [he]
    rfl
   ·cases hx
  ·cases hx
 ·rename_i hn1 hn2 hn3 hn4 hn5
  split at hx
  ·rename_i hg
   split at hx
   ·rename_i b hb
    cases hx
    have he := xeq_sound (P := P) (α := α) 12 Op.maxDepth (by decide) _ _ _ _ _ _ hb hrx hry w
    refine ⟨.bool (!b), pass _ (guard hg) ?_, .bool _⟩
    have e : binOp .neq t x' y' = (do pure (.bool (!(← Op.equal t x' y'))) : Sem Value) := by
     cases hrx <;> cases hry <;> first | rfl | exact (hn4 _ _ _ _ rfl rfl).elim | exact (hn5 _ _ rfl rfl).elim | exact (hn2 _ _ rfl).elim | exact (hn3 _ _ _ rfl).elim
    rw [e, Sem.run_bind]
    unfold Op.equal
    rw [he]
    rfl
   ·cases hx
  ·cases hx
 ·cases hx
theorem xun_sound {op : UnOp} {x x' v : Value} (hx : xun op x = some v) (hr : VRel α x x') : ∃ v', (Op.unary op x').run P w = .ok v' w ∧ VRel α v v' := by
 unfold xun at hx
 split at hx
 ·cases hx; cases hr; exact ⟨_, rfl, .int _ _⟩
 ·rename_i k n
  cases hr
  simp only [xint] at hx; cases hx
  exact ⟨_, rfl, .int _ _⟩
 ·cases hx; cases hr; exact ⟨_, rfl, .bool _⟩
 ·cases hx
end
end Go.Xe
