/-
  The engine, part c: what makes, writes and forgets a block keeps the abstract heap's relation to memory.
-/
import Derived.Test.YtkhjbbigangbdaaDoorM00
import Derived.Laws.Sem
import Derived.Laws.Cells
import Derived.Lib.FrozenHead
import Derived.WalkKit
namespace Go.Xe
open Go

def Place.upd (α : Place) (i : Nat) (l : Loc) : Place := fun j => if j = i then some l else α j
theorem Place.upd_same (α : Place) (i : Nat) (l : Loc) : α.upd i l i = some l := by simp [Place.upd]
theorem Place.upd_ne (α : Place) {i j : Nat} (l : Loc) (h : j ≠ i) : α.upd i l j = α j := by simp [Place.upd, h]
theorem Rel.unused {α : Place} {S : St} {w : World} (h : Rel α S w) : α S.next = none := by
  cases e : α S.next with
  | none => rfl
  | some l => have := h.fresh _ _ e; omega
theorem Rel.ext {α : Place} {S : St} {w : World} (h : Rel α S w) (l : Loc) : α.Ext (α.upd S.next l) := fun i m e => by
  rw [Place.upd_ne]
  · exact e
  · intro e'; subst e'; rw [h.unused] at e; cases e
theorem Rel.live_lt {α : Place} {S : St} {w : World} (h : Rel α S w) {i : Nat} {e : Ent} (hi : S.heap.get i = some e) : i < S.next := by
  obtain ⟨l, hl, _⟩ := h.ent i e hi
  exact h.fresh i l hl

/-- A new block. -/
theorem Next.new {α : Place} {S : St} {w w' : World} (h : Rel α S w) (e : Ent) (hero : e.ro = false) (o : Obj) (room esz : Nat) (hw : w'.heap = w.heap.push o) (k : Alike0 w w')
    (he : EntRel (α.upd S.next ⟨w.heap.size, 0, room, esz⟩) w' ⟨w.heap.size, 0, room, esz⟩ e) :
    Next α S w (α.upd S.next ⟨w.heap.size, 0, room, esz⟩) (S.new e) w' := by
  have hx := h.ext ⟨w.heap.size, 0, room, esz⟩
  have hb : ∀ b, b < w.heap.size → w'.heap[b]? = w.heap[b]? := fun b hb => by rw [hw, Array.getElem?_push, if_neg (by omega)]
  have hget : ∀ i x, (S.new e).heap.get i = some x → (i = S.next ∧ x = e) ∨ (i ≠ S.next ∧ S.heap.get i = some x) := by
    intro i x hi
    simp only [St.new] at hi
    rw [PT.get_set] at hi
    by_cases hn : i = S.next
    · rw [if_pos hn] at hi; cases hi; exact .inl ⟨hn, rfl⟩
    · rw [if_neg hn] at hi; exact .inr ⟨hn, hi⟩
  refine ⟨hx, ⟨?_, ?_, ?_, ?_, ?_, ?_⟩, ⟨by rw [hw]; simp, fun b hb' _ => hb b hb', k.os, k.tape, k.output⟩, ?_, by simp [St.new], rfl, fun i hi => Place.upd_ne _ _ (by omega), ?_, ?_⟩
  · intro i x hi
    rcases hget i x hi with ⟨rfl, rfl⟩ | ⟨hn, hi1⟩
    · exact ⟨_, Place.upd_same _ _ _, he⟩
    · obtain ⟨l, hl, hr⟩ := h.ent i x hi1
      refine ⟨l, by rw [Place.upd_ne _ _ hn]; exact hl, ?_⟩
      exact (hr.mono hx).of_block (hb _ (h.size i l hl))
  · intro i j x y l m hij hi hj hro hl hm
    rcases hget i x hi with ⟨rfl, rfl⟩ | ⟨hn, hi1⟩
    · rcases hget j y hj with ⟨rfl, rfl⟩ | ⟨hn', hj1⟩
      · exact absurd rfl hij
      · rw [Place.upd_same] at hl; rw [Place.upd_ne _ _ hn'] at hm; cases hl
        have := h.size j m hm
        simp only; omega
    · rcases hget j y hj with ⟨rfl, rfl⟩ | ⟨hn', hj1⟩
      · rw [Place.upd_same] at hm; rw [Place.upd_ne _ _ hn] at hl; cases hm
        have := h.size i l hl
        simp only; omega
      · rw [Place.upd_ne _ _ hn] at hl; rw [Place.upd_ne _ _ hn'] at hm
        exact h.apart i j x y l m hij hi1 hj1 hro hl hm
  · intro i l hl
    by_cases hn : i = S.next
    · subst hn; simp [St.new]
    · rw [Place.upd_ne _ _ hn] at hl; have := h.fresh i l hl; simp only [St.new]; omega
  · intro i l hl
    rw [hw, Array.size_push]
    by_cases hn : i = S.next
    · subst hn; rw [Place.upd_same] at hl; cases hl; simp
    · rw [Place.upd_ne _ _ hn] at hl; have := h.size i l hl; omega
  · intro i l hg hl
    have := h.gle
    rw [Place.upd_ne _ _ (by simp only [St.new] at hg; omega)] at hl
    exact h.glob i l hg hl
  · have := h.gle; simp only [St.new]; omega
  · intro j f m hj hf hm
    rcases hget j f hj with ⟨rfl, rfl⟩ | ⟨hn, hj1⟩
    · rw [Place.upd_same] at hm; cases hm; exact .inl (Nat.le_refl _)
    · rw [Place.upd_ne _ _ hn] at hm; exact .inr ⟨j, f, m, hj1, hf, hm, rfl⟩
  · intro i x hi hlt
    rcases hget i x hi with ⟨rfl, rfl⟩ | ⟨hn, hi1⟩
    · omega
    · exact ⟨x, hi1⟩
  · intro i x hi hr
    rcases hget i x hi with ⟨rfl, rfl⟩ | ⟨hn, hi1⟩
    · rw [hero] at hr; cases hr
    · exact hi1

/-- A block that is written. -/
theorem Next.write {α : Place} {S : St} {w w' : World} (h : Rel α S w) {i : Nat} {e0 : Ent} {l : Loc} (hi : S.heap.get i = some e0) (hro : e0.ro = false) (hl : α i = some l)
    (e : Ent) (hero : e.ro = false) (hb : ∀ b, b ≠ l.blk → w'.heap[b]? = w.heap[b]?) (hs : w'.heap.size = w.heap.size) (k : Alike0 w w') (he : EntRel α w' l e) :
    Next α S w α (S.put i e) w' := by
  have hget : ∀ j x, (S.put i e).heap.get j = some x → (j = i ∧ x = e) ∨ (j ≠ i ∧ S.heap.get j = some x) := by
    intro j x hj
    simp only [St.put] at hj
    rw [PT.get_set] at hj
    by_cases hn : j = i
    · rw [if_pos hn] at hj; cases hj; exact .inl ⟨hn, rfl⟩
    · rw [if_neg hn] at hj; exact .inr ⟨hn, hj⟩
  refine ⟨.refl _, ⟨?_, ?_, h.fresh, fun j m hm => by rw [hs]; exact h.size j m hm, h.glob, h.gle⟩, ⟨by omega, fun b _ hn => hb b (fun e' => hn i e0 l hi hro hl e'.symm), k.os, k.tape, k.output⟩, ?_, Nat.le_refl _, rfl, fun _ _ => rfl, ?_, ?_⟩
  · intro j x hj
    rcases hget j x hj with ⟨rfl, rfl⟩ | ⟨hn, hj1⟩
    · exact ⟨l, hl, he⟩
    · obtain ⟨m, hm, hr⟩ := h.ent j x hj1
      exact ⟨m, hm, hr.of_block (hb _ (h.apart j i x e0 m l hn hj1 hi (.inr hro) hm hl))⟩
  · intro j j' x y m m' hij hj hj' hro' hm hm'
    rcases hget j x hj with ⟨rfl, rfl⟩ | ⟨hn, hj1⟩
    · rcases hget j' y hj' with ⟨rfl, rfl⟩ | ⟨hn', hj1'⟩
      · exact absurd rfl hij
      · exact h.apart j j' e0 y m m' hij hi hj1' (.inl hro) hm hm'
    · rcases hget j' y hj' with ⟨rfl, rfl⟩ | ⟨hn', hj1'⟩
      · exact h.apart j j' x e0 m m' hij hj1 hi (.inr hro) hm hm'
      · exact h.apart j j' x y m m' hij hj1 hj1' hro' hm hm'
  · intro j f m hj hf hm
    rcases hget j f hj with ⟨rfl, rfl⟩ | ⟨hn, hj1⟩
    · exact .inr ⟨j, e0, m, hi, hro, hm, rfl⟩
    · exact .inr ⟨j, f, m, hj1, hf, hm, rfl⟩
  · intro j x hj hlt
    rcases hget j x hj with ⟨rfl, rfl⟩ | ⟨hn, hj1⟩
    · exact ⟨e0, hi⟩
    · exact ⟨x, hj1⟩
  · intro j x hj hr
    rcases hget j x hj with ⟨rfl, rfl⟩ | ⟨hn, hj1⟩
    · rw [hero] at hr; cases hr
    · exact hj1

theorem St.get_kill (S : St) (i j : Nat) (x : Ent) (h : (S.kill i).heap.get j = some x) : j ≠ i ∧ S.heap.get j = some x := by
  simp only [St.kill] at h
  rw [PT.get_set] at h
  by_cases hn : j = i
  · rw [if_pos hn] at h; cases h
  · rw [if_neg hn] at h; exact ⟨hn, h⟩

/-- A block that is forgotten. -/
theorem Next.kill {α : Place} {S : St} {w : World} (h : Rel α S w) (i : Nat) : Next α S w α (S.kill i) w := by
  refine ⟨.refl _, ⟨fun j x hj => h.ent j x (S.get_kill i j x hj).2, fun j j' x y m m' hij hj hj' => h.apart j j' x y m m' hij (S.get_kill i j x hj).2 (S.get_kill i j' y hj').2, h.fresh, h.size, h.glob, h.gle⟩, .refl _ _ _, ?_, Nat.le_refl _, rfl, fun _ _ => rfl, fun j x hj _ => ⟨x, (S.get_kill i j x hj).2⟩, fun j x hj _ => (S.get_kill i j x hj).2⟩
  intro j f m hj hf hm
  exact .inr ⟨j, f, m, (S.get_kill i j f hj).2, hf, hm, rfl⟩

/-- A block that goes on under another number: an append within what there is. -/
theorem Next.renew {α : Place} {S : St} {w w' : World} (h : Rel α S w) {i : Nat} {e0 : Ent} {l : Loc} (hi : S.heap.get i = some e0) (hro : e0.ro = false) (hl : α i = some l)
    (e : Ent) (hero : e.ro = false) (l' : Loc) (hl' : l'.blk = l.blk) (hb : ∀ b, b ≠ l.blk → w'.heap[b]? = w.heap[b]?) (hs : w'.heap.size = w.heap.size) (k : Alike0 w w')
    (he : EntRel (α.upd S.next l') w' l' e) : Next α S w (α.upd S.next l') ((S.kill i).new e) w' := by
  have hx := h.ext l'
  have hget : ∀ j x, ((S.kill i).new e).heap.get j = some x → (j = S.next ∧ x = e) ∨ (j ≠ S.next ∧ j ≠ i ∧ S.heap.get j = some x) := by
    intro j x hj
    simp only [St.new] at hj
    rw [PT.get_set] at hj
    by_cases hn : j = (S.kill i).next
    · rw [if_pos hn] at hj; cases hj; exact .inl ⟨hn, rfl⟩
    · rw [if_neg hn] at hj
      exact .inr ⟨hn, S.get_kill i j x hj⟩
  refine ⟨hx, ⟨?_, ?_, ?_, ?_, ?_, ?_⟩, ⟨by omega, fun b _ hn => hb b (fun e' => hn i e0 l hi hro hl e'.symm), k.os, k.tape, k.output⟩, ?_, by simp [St.new, St.kill], rfl, fun i hi => Place.upd_ne _ _ (by omega), ?_, ?_⟩
  · intro j x hj
    rcases hget j x hj with ⟨rfl, rfl⟩ | ⟨hn, hn', hj1⟩
    · exact ⟨_, Place.upd_same _ _ _, he⟩
    · obtain ⟨m, hm, hr⟩ := h.ent j x hj1
      refine ⟨m, by rw [Place.upd_ne _ _ hn]; exact hm, ?_⟩
      exact (hr.mono hx).of_block (hb _ (h.apart j i x e0 m l hn' hj1 hi (.inr hro) hm hl))
  · intro j j' x y m m' hij hj hj' hro' hm hm'
    rcases hget j x hj with ⟨rfl, rfl⟩ | ⟨hn, hni, hj1⟩
    · rcases hget j' y hj' with ⟨rfl, rfl⟩ | ⟨hn', hni', hj1'⟩
      · exact absurd rfl hij
      · rw [Place.upd_same] at hm; cases hm; rw [Place.upd_ne _ _ hn'] at hm'
        rw [hl']; exact h.apart i j' e0 y l m' (Ne.symm hni') hi hj1' (.inl hro) hl hm'
    · rcases hget j' y hj' with ⟨rfl, rfl⟩ | ⟨hn', hni', hj1'⟩
      · rw [Place.upd_same] at hm'; cases hm'; rw [Place.upd_ne _ _ hn] at hm
        rw [hl']; exact h.apart j i x e0 m l hni hj1 hi (.inr hro) hm hl
      · rw [Place.upd_ne _ _ hn] at hm; rw [Place.upd_ne _ _ hn'] at hm'
        exact h.apart j j' x y m m' hij hj1 hj1' hro' hm hm'
  · intro j m hm
    by_cases hn : j = S.next
    · subst hn; simp [St.new, St.kill]
    · rw [Place.upd_ne _ _ hn] at hm; have := h.fresh j m hm; simp only [St.new, St.kill]; omega
  · intro j m hm
    rw [hs]
    by_cases hn : j = S.next
    · subst hn; rw [Place.upd_same] at hm; cases hm; rw [hl']; exact h.size i l hl
    · rw [Place.upd_ne _ _ hn] at hm; exact h.size j m hm
  · intro j m hg hm
    have := h.gle
    rw [Place.upd_ne _ _ (by simp only [St.new, St.kill] at hg; omega)] at hm
    exact h.glob j m hg hm
  · have := h.gle; simp only [St.new, St.kill]; omega
  · intro j f m hj hf hm
    rcases hget j f hj with ⟨rfl, rfl⟩ | ⟨hn, _, hj1⟩
    · rw [Place.upd_same] at hm; cases hm; exact .inr ⟨i, e0, l, hi, hro, hl, hl'.symm⟩
    · rw [Place.upd_ne _ _ hn] at hm; exact .inr ⟨j, f, m, hj1, hf, hm, rfl⟩
  · intro j x hj hlt
    rcases hget j x hj with ⟨rfl, rfl⟩ | ⟨hn, _, hj1⟩
    · omega
    · exact ⟨x, hj1⟩
  · intro j x hj hr
    rcases hget j x hj with ⟨rfl, rfl⟩ | ⟨hn, _, hj1⟩
    · rw [hero] at hr; cases hr
    · exact hj1

/-! Reading and writing rows. -/

theorem add_eq (b o n : Nat) : (⟨b, o, none⟩ : Addr).add n = ⟨b, o + n, none⟩ := by
  unfold Addr.add; split
  · subst_vars; rfl
  · rfl

section
variable {α : Place} {S : St} {w : World} {P : Program}

/-- What a row's cells are in memory. -/
theorem Rel.cells (h : Rel α S w) {i : Nat} {l : Loc} (hl : α i = some l) {cs : List Value} {esz : Nat} {ro : Bool} (hi : S.heap.get i = some (.row cs esz ro)) :
    esz = l.esz ∧ ∃ (c : Array Value) (e : TypeId) (fr : Nat × Nat), w.heap[l.blk]? = some (.cells c e fr) ∧ l.off + l.room ≤ c.size ∧ cs.length ≤ l.room ∧
      (ro = false → Free c.size fr) ∧
      ∀ (j : Nat) v, cs[j]? = some v → ∃ v', c[l.off + j]? = some v' ∧ VRel α v v' := by
  obtain ⟨m, hm, hr⟩ := h.ent i _ hi
  rw [hl] at hm; cases hm
  exact hr

theorem cell_of {c : Array Value} {e : TypeId} {fr : Nat × Nat} {b o : Nat} (hb : w.heap[b]? = some (.cells c e fr)) : w.cell? ⟨b, o, none⟩ = c[o]? := by
  simp [World.cell?, hb]

theorem Rel.loadN (h : Rel α S w) {i o n : Nat} {l : Loc} (hl : α i = some l) {vs : List Value} (hv : S.loadN i o n = some vs) :
    ∃ vs', LRel α vs vs' ∧ vs.length = n ∧ (loadCells ⟨l.blk, l.off + o, none⟩ n).run P w = .ok vs'.toArray w := by
  unfold St.loadN at hv
  split at hv
  · rename_i cs esz ro hi
    split at hv
    · rename_i hlen
      cases hv
      obtain ⟨_, c, e, fr, hb, hsz, hcl, _, hc⟩ := h.cells hl hi
      have hget : ∀ j, j < n → ∃ v v', cs[o + j]? = some v ∧ c[l.off + (o + j)]? = some v' ∧ VRel α v v' := by
        intro j hj
        obtain ⟨v', h1, h2⟩ := hc (o + j) cs[o + j] (List.getElem?_eq_getElem (by omega))
        exact ⟨_, v', List.getElem?_eq_getElem (by omega), h1, h2⟩
      refine ⟨((c.toList.drop (l.off + o)).take n), ⟨?_, ?_⟩, by simp; omega, ?_⟩
      · simp; omega
      · intro j v v' h1 h2
        rw [List.getElem?_take] at h1 h2
        by_cases hj : j < n
        · rw [if_pos hj, List.getElem?_drop] at h1 h2
          obtain ⟨a, a', g1, g2, g3⟩ := hget j hj
          rw [g1] at h1; cases h1
          rw [Array.getElem?_toList, show l.off + o + j = l.off + (o + j) by omega, g2] at h2; cases h2
          exact g3
        · rw [if_neg hj] at h1; cases h1
      · have hlen' : ((c.toList.drop (l.off + o)).take n).length = n := by simp; omega
        have := run_loadCells_list (P := P) w ⟨l.blk, l.off + o, none⟩ ((c.toList.drop (l.off + o)).take n) (fun j v hj => by
          rw [add_eq, cell_of hb]
          rw [List.getElem?_take] at hj
          by_cases hjn : j < n
          · rw [if_pos hjn, List.getElem?_drop, Array.getElem?_toList] at hj; exact hj
          · rw [if_neg hjn] at hj; cases hj)
        rwa [hlen'] at this
    · cases hv
  · cases hv

theorem Rel.load1 (h : Rel α S w) {i o : Nat} {l : Loc} (hl : α i = some l) {v : Value} (hv : S.load1 i o = some v) :
    ∃ v', VRel α v v' ∧ (load ⟨l.blk, l.off + o, none⟩).run P w = .ok v' w := by
  unfold St.load1 at hv
  split at hv
  · rename_i cs esz ro hi
    obtain ⟨_, c, e, fr, hb, hsz, hcl, _, hc⟩ := h.cells hl hi
    obtain ⟨v', h1, h2⟩ := hc o v hv
    refine ⟨v', h2, ?_⟩
    rw [run_load, cell_of hb, h1]
  · cases hv
end
/-- Fewer live blocks: the relation holds all the more. -/
theorem Rel.weaken {α : Place} {S T : St} {w : World} (h : Rel α S w) (hs : ∀ i e, T.heap.get i = some e → S.heap.get i = some e) (hn : T.next = S.next) (hg : T.glob = S.glob) : Rel α T w :=
  ⟨fun i e hi => h.ent i e (hs i e hi), fun i j e f l m hij hi hj => h.apart i j e f l m hij (hs i e hi) (hs j f hj), fun i l hl => by rw [hn]; exact h.fresh i l hl, h.size,
    fun i l hi => h.glob i l (hg ▸ hi), by rw [hg, hn]; exact h.gle⟩

/-- A heap that has the same blocks. -/
theorem Next.same {α β : Place} {S T T' : St} {w w' : World} (n : Next α S w β T w') (h1 : ∀ i e, T'.heap.get i = some e → T.heap.get i = some e) (hn : T'.next = T.next) (hg : T'.glob = T.glob) : Next α S w β T' w' :=
  ⟨n.ext, n.rel.weaken h1 hn hg, n.frame, fun j f m hj => n.kept j f m (h1 j f hj), by rw [hn]; exact n.next, by rw [hg]; exact n.glob, n.old, fun i e hi => n.ids i e (h1 i e hi), fun i e hi => n.ros i e (h1 i e hi)⟩

end Go.Xe
/-
  The engine, part d: stores; values made; the single operations against the model's.
-/
namespace Go.Xe
open Go

section
variable {α : Place} {S : St} {w : World} {P : Program}

theorem one_iff (v : Value) : one v = v.oneCell' := by cases v <;> rfl

theorem VRel.one {v v' : Value} (r : VRel α v v') : one v = one v' := by cases r <;> rfl

theorem alike_refl (w : World) : Alike0 w w := ⟨rfl, rfl, rfl⟩

/-- The model's store into one cell. -/
theorem run_store_cell {g o : Nat} {c : Array Value} {t : TypeId} {fr : Nat × Nat} {v : Value} (hb : w.heap[g]? = some (.cells c t fr)) (ho : o < c.size)
    (hf : ∀ o, o < c.size → ¬(fr.1 ≤ o ∧ o < fr.2)) (hv : one v = true) :
    ∃ w', (store ⟨g, o, none⟩ v).run P w = .ok () w' ∧ w'.heap.size = w.heap.size ∧ (∀ b, b ≠ g → w'.heap[b]? = w.heap[b]?) ∧
      w'.heap[g]? = some (.cells (c.setIfInBounds o v) t fr) ∧ Alike0 w w' := by
  have hcell : w.cell? ⟨g, o, none⟩ = some c[o] := by simp [World.cell?, hb, ho]
  have hfro : w.frozen? ⟨g, o, none⟩ = false := by
    have := hf o ho
    simp only [World.frozen?, hb]
    simp only [Bool.and_eq_false_iff, decide_eq_false_iff_not]
    omega
  refine ⟨w.setCell ⟨g, o, none⟩ v, ?_, ?_, ?_, ?_, ⟨rfl, rfl, rfl⟩⟩
  · rw [run_store P w _ _ _ (by rw [← one_iff]; exact hv), hcell]
    simp [hfro]
  · simp [World.setCell]
  · intro b hbg
    simp only [World.setCell, Array.getElem?_modify]
    rw [if_neg (by omega)]
  · simp only [World.setCell, Array.getElem?_modify]
    simp [hb]

theorem run_storeCells (g o : Nat) (t : TypeId) (fr : Nat × Nat) : ∀ (vs : List Value) (i : Nat) (c : Array Value) (w : World), w.heap[g]? = some (.cells c t fr) →
    o + i + vs.length ≤ c.size → (∀ o, o < c.size → ¬(fr.1 ≤ o ∧ o < fr.2)) → vs.all one = true →
    ∃ (w' : World) (c' : Array Value), (storeCells ⟨g, o, none⟩ vs i).run P w = .ok () w' ∧ w'.heap.size = w.heap.size ∧ (∀ b, b ≠ g → w'.heap[b]? = w.heap[b]?) ∧
      w'.heap[g]? = some (.cells c' t fr) ∧ c'.size = c.size ∧ (∀ j, c'[j]? = if o + i ≤ j ∧ j < o + i + vs.length then vs[j - (o + i)]? else c[j]?) ∧ Alike0 w w'
  | [], i, c, w, hb, _, _, _ => ⟨w, c, rfl, rfl, fun _ _ => rfl, hb, rfl, fun j => by rw [if_neg (by simp only [List.length_nil]; omega)], alike_refl w⟩
  | v :: vs, i, c, w, hb, hl, hf, ha => by
    simp only [List.length_cons] at hl
    simp only [List.all_cons, Bool.and_eq_true] at ha
    obtain ⟨w1, h1, h2, h3, h4, h5⟩ := run_store_cell (P := P) (v := v) hb (o := o + i) (by omega) hf ha.1
    obtain ⟨w2, c2, g1, g2, g3, g4, g5, g6, g7⟩ := run_storeCells g o t fr vs (i + 1) (c.setIfInBounds (o + i) v) w1 h4 (by simp; omega) (by simpa using hf) ha.2
    refine ⟨w2, c2, ?_, by omega, fun b hbg => by rw [g3 b hbg, h3 b hbg], g4, by simpa using g5, ?_, ⟨g7.os.trans h5.os, g7.tape.trans h5.tape, g7.output.trans h5.output⟩⟩
    · simp only [storeCells, Sem.run_bind, add_eq, h1, Result.andThen, g1]
    · intro j
      rw [g6 j]
      by_cases hj : j = o + i
      · subst hj
        rw [if_neg (by omega), if_pos (by simp)]
        have hlt : o + i < c.size := by omega
        simp [hlt]
      · simp only [List.length_cons]
        by_cases h : o + (i + 1) ≤ j ∧ j < o + (i + 1) + vs.length
        · rw [if_pos h, if_pos (by omega)]
          rw [show j - (o + i) = (j - (o + (i + 1))) + 1 by omega, List.getElem?_cons_succ]
        · rw [if_neg h, if_neg (by omega)]
          rw [Array.getElem?_setIfInBounds_ne (by omega)]

theorem getElem?_splice (l vs : List Value) (o j : Nat) (h : o + vs.length ≤ l.length) :
    (splice l o vs)[j]? = if o ≤ j ∧ j < o + vs.length then vs[j - o]? else l[j]? := by
  unfold splice
  by_cases h1 : j < o
  · rw [if_neg (by omega), List.append_assoc, List.getElem?_append_left (by simp; omega), List.getElem?_take, if_pos h1]
  · by_cases h2 : j < o + vs.length
    · rw [if_pos ⟨by omega, h2⟩, List.append_assoc, List.getElem?_append_right (by simp; omega), List.getElem?_append_left (by simp; omega)]
      congr 1; simp; omega
    · rw [if_neg (by omega), List.getElem?_append_right (by simp; omega), List.getElem?_drop]
      congr 1; simp; omega

theorem length_splice (l vs : List Value) (o : Nat) (h : o + vs.length ≤ l.length) : (splice l o vs).length = l.length := by
  unfold splice; simp; omega

theorem LRel.all_one {l l' : List Value} (r : LRel α l l') (h : l.all one = true) : l'.all one = true := by
  rw [List.all_eq_true] at h ⊢
  intro v' hv'
  obtain ⟨i, hi⟩ := List.getElem?_of_mem hv'
  have hlt := (List.getElem?_eq_some_iff.1 hi).1
  have hlt' : i < l.length := by have := r.1; omega
  have := r.2 i l[i] v' (List.getElem?_eq_getElem hlt') hi
  rw [← this.one]
  exact h _ (List.getElem_mem hlt')

/-- A store of several cells. -/
theorem Rel.storeN (h : Rel α S w) {i o : Nat} {l : Loc} (hl : α i = some l) {vs vs' : List Value} (hr : LRel α vs vs') {S' : St} (hv : S.storeN i o vs = some S') :
    ∃ w', (storeCells ⟨l.blk, l.off + o, none⟩ vs').run P w = .ok () w' ∧ Next α S w α S' w' := by
  unfold St.storeN at hv
  split at hv
  · rename_i cs esz hi
    split at hv
    · rename_i hc
      obtain ⟨hlen, hall⟩ := hc
      cases hv
      obtain ⟨he, c, e, fr, hb, hsz, hcl, hfr, hcells⟩ := h.cells hl hi
      have hfr := hfr rfl
      obtain ⟨w', c', h1, h2, h3, h4, h5, h6, h7⟩ := run_storeCells (P := P) l.blk (l.off + o) e fr vs' 0 c w hb (by have := hr.1; omega) hfr.1 (hr.all_one hall)
      refine ⟨w', h1, Next.write h hi rfl hl _ rfl h3 h2 h7 ⟨he, c', e, fr, h4, by omega, by rw [length_splice _ _ _ hlen]; exact hcl, fun _ => by rw [h5]; exact hfr, ?_⟩⟩
      intro j v hj
      rw [getElem?_splice _ _ _ _ hlen] at hj
      rw [h6]
      by_cases hin : o ≤ j ∧ j < o + vs.length
      · rw [if_pos hin] at hj
        rw [if_pos (by have := hr.1; omega)]
        obtain ⟨v', g1, g2⟩ := hr.get hj
        exact ⟨v', by rw [← g1]; congr 1; omega, g2⟩
      · rw [if_neg hin] at hj
        rw [if_neg (by have := hr.1; omega)]
        exact hcells j v hj
    · cases hv
  · cases hv

theorem Rel.store1 (h : Rel α S w) {i o : Nat} {l : Loc} (hl : α i = some l) {v v' : Value} (hr : VRel α v v') {S' : St} (hv : S.store1 i o v = some S') :
    ∃ w', (storeCells ⟨l.blk, l.off + o, none⟩ [v']).run P w = .ok () w' ∧ Next α S w α S' w' := by
  have : S.storeN i o [v] = some S' := by
    unfold St.store1 at hv
    unfold St.storeN
    split at hv
    · rename_i cs esz hi
      split at hv
      · rename_i hc
        cases hv
        simp only [List.length_singleton, List.all_cons, List.all_nil, Bool.and_true]
        rw [if_pos ⟨by omega, hc.2⟩]
        congr 3
        apply List.ext_getElem?
        intro j
        rw [getElem?_splice _ _ _ _ (by simp; omega), List.getElem?_set]
        by_cases hj : o = j
        · subst hj; simp [hc.1]
        · rw [if_neg hj, if_neg (by simp; omega)]
      · cases hv
    · cases hv
  exact h.storeN hl (LRel.cons hr (LRel.nil α)) this

/-- A new row: its cells, and what the model has behind them. -/
theorem Rel.row (h : Rel α S w) {cs : List Value} {esz : Nat} {S' : St} (hv : S.row cs esz = some S') {cs' : List Value} (hr : LRel α cs cs') (spare : List Value) (t : TypeId) {w' : World} (fr : Nat × Nat)
    (hw : w'.heap = w.heap.push (.cells (cs' ++ spare).toArray t fr)) (k : Alike0 w w') (hfr : Free (cs'.length + spare.length) fr) :
    Next α S w (α.upd S.next ⟨w.heap.size, 0, cs'.length + spare.length, esz⟩) S' w' := by
  unfold St.row at hv
  split at hv
  · cases hv
    refine Next.new h _ rfl _ _ _ hw k ⟨rfl, (cs' ++ spare).toArray, t, fr, ?_, by simp, by have := hr.1; simp only; omega, fun _ => by simpa using hfr, ?_⟩
    · rw [hw]; simp
    · intro j v hj
      obtain ⟨v', h1, h2⟩ := hr.get hj
      refine ⟨v', ?_, h2.mono (h.ext _)⟩
      have hlt : j < cs'.length := (List.getElem?_eq_some_iff.1 h1).1
      simp only [Nat.zero_add]
      rw [List.getElem?_toArray, List.getElem?_append_left hlt]
      exact h1
  · cases hv
end
end Go.Xe
/-
  The engine, part e: the single operations against the model's.
-/
set_option linter.unusedSimpArgs false
set_option linter.unusedVariables false
namespace Go.Xe
open Go

section
variable {α : Place} {S : St} {w : World} {P : Program}

theorem run_pure {β : Type} (a : β) : (pure a : Sem β).run P w = .ok a w := rfl

theorem run_underlying' {t : TypeId} {d : TypeDesc} (h : P.underlying t = some d) (w : World) : (underlying t).run P w = .ok d w := run_underlying h w
theorem run_info {t : TypeId} {i : TypeInfo} (h : P.info? t = some i) (w : World) : (typeInfo t).run P w = .ok i w := by
  simp [typeInfo, program, Sem.run, bind, Sem.bind, pure, h]
theorem run_sizeOf {t : TypeId} {n : Nat} (h : sizeT P t = some n) (w : World) : (sizeOf t).run P w = .ok n w := by
  unfold sizeT at h
  cases hi : P.info? t with
  | none => rw [hi] at h; cases h
  | some i => rw [hi] at h; simp at h; simp [sizeOf, Sem.run_bind, run_info hi, Result.andThen, h]
theorem run_isAgg {t : TypeId} {b : Bool} (h : aggT P t = some b) (w : World) : (isAgg t).run P w = .ok b w := by
  unfold aggT at h
  cases hu : P.underlying t with
  | none => rw [hu] at h; cases h
  | some d =>
    rw [hu] at h
    unfold isAgg
    simp only [Sem.run_bind, run_underlying hu, Result.andThen]
    cases d <;> simp_all
theorem zeroT_some {t : TypeId} {z : Value} (h : zeroT P t = some z) : ∃ i, P.info? t = some i ∧ i.zero = some z ∧ plain z = true := by
  unfold zeroT at h
  cases hi : P.info? t with
  | none => rw [hi] at h; cases h
  | some i =>
    rw [hi] at h
    cases hz : i.zero with
    | none => simp [hz] at h
    | some v =>
      simp only [hz] at h
      split at h
      · cases h; exact ⟨i, rfl, hz, by assumption⟩
      · cases h
theorem run_zero {t : TypeId} {z : Value} (h : zeroT P t = some z) (w : World) : (zeroValue t).run P w = .ok z w := by
  obtain ⟨i, hi, hz, _⟩ := zeroT_some h
  simp [zeroValue, Sem.run_bind, run_info hi, Result.andThen, hz]
theorem zero_rel {t : TypeId} {z : Value} (h : zeroT P t = some z) (α : Place) : VRel α z z := by
  obtain ⟨_, _, _, hp⟩ := zeroT_some h
  exact plain_rel α z hp

theorem ptr_inv {i o : Nat} {v : Value} (h : VRel α (.pointer (some ⟨i, o, none⟩)) v) : ∃ l, α i = some l ∧ v = .pointer (some ⟨l.blk, l.off + o, none⟩) := by
  cases h with
  | ptr i o l h => exact ⟨l, h, rfl⟩

theorem xload_sound (h : Rel α S w) {t : TypeId} {a a' v : Value} (hx : xload P S t a = some v) (ha : VRel α a a') :
    ∃ v', (Instr.loadAt t a').run P w = .ok v' w ∧ VRel α v v' := by
  unfold xload at hx
  split at hx
  · rename_i i o
    obtain ⟨l, hl, rfl⟩ := ptr_inv ha
    split at hx
    · rename_i hagg
      split at hx
      · rename_i n hn
        split at hx
        · rename_i vs hvs
          cases hx
          obtain ⟨vs', hr, hlen, hrun⟩ := h.loadN (P := P) hl hvs
          refine ⟨.agg vs'.toArray, ?_, hr.agg⟩
          simp only [Instr.loadAt, Instr.sureAddr, loadVar, Sem.run_bind, Sem.run_pure, Result.andThen, run_isAgg hagg, if_true, run_sizeOf hn, hrun]
        · cases hx
      · cases hx
    · rename_i hagg
      obtain ⟨v', hr, hrun⟩ := h.load1 (P := P) hl hx
      refine ⟨v', ?_, hr⟩
      simp only [Instr.loadAt, Instr.sureAddr, loadVar, Sem.run_bind, Sem.run_pure, Result.andThen, run_isAgg hagg, hrun]
      simp [hrun]
    · cases hx
  · cases hx

theorem VRel.size_cells {v v' : Value} (r : VRel α v v') : v.cells.size = v'.cells.size := by simpa using r.cells.1

theorem xstore_sound (h : Rel α S w) {t : TypeId} {a a' v v' : Value} {S' : St} (hx : xstore P S t a v = some S') (ha : VRel α a a') (hv : VRel α v v') :
    ∃ w', (Instr.storeAt t a' v').run P w = .ok () w' ∧ Next α S w α S' w' := by
  unfold xstore at hx
  split at hx
  · rename_i i o
    obtain ⟨l, hl, rfl⟩ := ptr_inv ha
    have key : ∀ (n : Nat), sizeT P t = some n → v'.cells.size = n →
        (Instr.storeAt t (.pointer (some ⟨l.blk, l.off + o, none⟩)) v').run P w = (storeCells ⟨l.blk, l.off + o, none⟩ v'.cells.toList).run P w := by
      intro n hn hs
      simp only [Instr.storeAt, Instr.sureAddr, storeVar, Sem.run_bind, Sem.run_pure, Result.andThen, run_sizeOf hn]
      rw [if_neg (by omega)]
    split at hx
    · rename_i cs
      split at hx
      · rename_i hs
        have hc := hv.cells
        obtain ⟨w', hrun, hnext⟩ := h.storeN (P := P) hl hc hx
        exact ⟨w', by rw [key _ hs (by have := hv.size_cells; simpa [Value.cells] using this.symm)]; exact hrun, hnext⟩
      · cases hx
    · rename_i hna
      split at hx
      · rename_i hs
        obtain ⟨w', hrun, hnext⟩ := h.store1 (P := P) hl hv hx
        have hcell : v'.cells = #[v'] := by
          cases hv <;> first | rfl | (exact absurd rfl (hna _))
        exact ⟨w', by rw [key _ hs (by rw [hcell]; rfl), hcell]; exact hrun, hnext⟩
      · cases hx
  · cases hx

theorem row_next {cs : List Value} {esz : Nat} {S' : St} (h : S.row cs esz = some S') : S' = S.new (.row cs esz false) := by
  unfold St.row at h; split at h
  · cases h; rfl
  · cases h

/-- A new row without spare cells, as the model makes it. -/
theorem Rel.newRow (h : Rel α S w) {cs cs' : List Value} {esz : Nat} {S' : St} (hx : S.row cs esz = some S') (hr : LRel α cs cs') (t : TypeId) :
    ∃ β w', (newRow t cs'.toArray).run P w = .ok ⟨w.heap.size, 0, none⟩ w' ∧ Next α S w β S' w' ∧ β S.next = some ⟨w.heap.size, 0, cs'.length, esz⟩ := by
  refine ⟨_, { w with heap := w.heap.push (.cells cs'.toArray t) }, rfl, h.row hx hr [] t (0, 0) (by simp) ⟨rfl, rfl, rfl⟩ ⟨fun o _ => by simp, Nat.le_refl _⟩, ?_⟩
  rw [Place.upd_same]; simp

theorem xnewVar_sound (h : Rel α S w) {t : TypeId} {v v' u : Value} {S' : St} (hx : xnewVar P S t v = some (u, S')) (hv : VRel α v v') :
    ∃ β w' a, (newVar t v').run P w = .ok a w' ∧ Next α S w β S' w' ∧ VRel β u (.pointer (some a)) := by
  unfold xnewVar at hx
  split at hx
  · rename_i S1 hrow
    cases hx
    obtain ⟨β, w', h1, h2, h3⟩ := h.newRow (P := P) hrow hv.cells t
    refine ⟨β, w', _, by simpa [newVar] using h1, h2, ?_⟩
    have := VRel.ptr (α := β) S.next 0 _ h3
    simpa using this
  · cases hx

theorem xfieldAddr_sound {s : TypeId} {a a' v : Value} {f : Nat} (hx : xfieldAddr P s a f = some v) (ha : VRel α a a') :
    ∃ v', (Instr.fieldAt s a' f).run P w = .ok v' w ∧ VRel α v v' := by
  unfold xfieldAddr at hx
  split at hx
  · rename_i i o
    obtain ⟨l, hl, rfl⟩ := ptr_inv ha
    split at hx
    · rename_i fields hu
      split at hx
      · rename_i fd hf
        split at hx
        · cases hx
        · rename_i n hn hs
          cases hx
          refine ⟨_, ?_, .ptr i (o + fd.offset) l hl⟩
          simp only [Instr.fieldAt, Instr.sureAddr, Sem.run_bind, run_underlying hu, Result.andThen, hf, Sem.run_pure, fieldPlace, run_sizeOf hs]
          rw [if_neg (by intro e; subst e; exact hn rfl)]
          simp [Sem.run_pure, add_eq, Nat.add_assoc]
        · cases hx
      · cases hx
    · cases hx
  · cases hx

theorem slice_inv {i o len cap : Nat} {v : Value} (h : VRel α (.slice (some ⟨i, o, none⟩) len cap) v) :
    (∃ l cap', α i = some l ∧ len ≤ cap ∧ cap ≤ cap' ∧ o + cap' * l.esz ≤ l.room ∧ v = .slice (some ⟨l.blk, l.off + o, none⟩) len cap') ∨
    (∃ a', len = 0 ∧ cap = 0 ∧ v = .slice (some a') 0 0) := by
  cases h with
  | slice i o len cap cap' l h hl hc hr => exact .inl ⟨l, cap', h, hl, hc, hr, rfl⟩
  | sliceEnd a a' => exact .inr ⟨a', rfl, rfl, rfl⟩

theorem xindexAddr_sound {t : TypeId} {x x' ix v : Value} (hx : xindexAddr P t x ix = some v) (ha : VRel α x x') :
    ∃ v', (Instr.indexAt t x' ix).run P w = .ok v' w ∧ VRel α v v' := by
  unfold xindexAddr at hx
  split at hx
  · rename_i k i
    split at hx
    · rename_i elem b o len cap hu
      split at hx
      · rename_i hi
        split at hx
        · rename_i s hs
          cases hx
          rcases slice_inv ha with ⟨l, cap', hl, h1, h2, h3, rfl⟩ | ⟨a', rfl, rfl, rfl⟩
          · refine ⟨_, ?_, .ptr b (o + i.toNat * s) l hl⟩
            simp only [Instr.indexAt, asIntOf, Sem.run_bind, Sem.run_pure, Result.andThen, run_underlying hu, if_pos hi, run_sizeOf hs]
            simp [add_eq, Nat.add_assoc]
          · simp at hi; omega
        · cases hx
      · cases hx
    · rename_i n elem b o hu
      split at hx
      · rename_i hi
        split at hx
        · rename_i s hs
          cases hx
          obtain ⟨l, hl, rfl⟩ := ptr_inv ha
          refine ⟨_, ?_, .ptr b (o + i.toNat * s) l hl⟩
          simp only [Instr.indexAt, Instr.sureAddr, asIntOf, Sem.run_bind, Sem.run_pure, Result.andThen, run_underlying hu, if_pos hi, run_sizeOf hs]
          simp [add_eq, Nat.add_assoc]
        · cases hx
      · cases hx
    · cases hx
  · cases hx

theorem xpart_sound {t : TypeId} {cs : List Value} {cs' : Array Value} {off : Nat} {v : Value} (hx : xpart P t cs off = some v) (hr : LRel α cs cs'.toList) :
    ∃ v', (part t cs' off).run P w = .ok v' w ∧ VRel α v v' := by
  unfold xpart at hx
  split at hx
  · rename_i hagg
    split at hx
    · rename_i n hn
      cases hx
      refine ⟨.agg (cs'.extract off (off + n)), ?_, ?_⟩
      · simp only [part, Sem.run_bind, run_isAgg hagg, Result.andThen, if_true, run_sizeOf hn, Sem.run_pure]
      · have := ((hr.drop off).take n).agg
        have e : (cs'.extract off (off + n)) = ((cs'.toList.drop off).take n).toArray := by
          apply Array.ext'
          simp [List.take_drop, Array.toList_extract]
        rw [e]; exact this
    · cases hx
  · rename_i hagg
    obtain ⟨v', h1, h2⟩ := hr.get hx
    refine ⟨v', ?_, h2⟩
    rw [Array.getElem?_toList] at h1
    simp only [part, Sem.run_bind, run_isAgg hagg, Result.andThen, h1]
    simp [Sem.run_pure]
  · cases hx

theorem agg_inv {cs : Array Value} {v : Value} (h : VRel α (.agg cs) v) : ∃ cs', v = .agg cs' ∧ LRel α cs.toList cs'.toList := by
  cases h with
  | agg a a' ha hr => exact ⟨a', rfl, LRel.of_arrays ha hr⟩
theorem tuple_inv {cs : Array Value} {v : Value} (h : VRel α (.tuple cs) v) : ∃ cs', v = .tuple cs' ∧ LRel α cs.toList cs'.toList := by
  cases h with
  | tuple a a' ha hr => exact ⟨a', rfl, LRel.of_arrays ha hr⟩

theorem xfield_sound {t : TypeId} {x x' v : Value} {f : Nat} (hx : xfield P t x f = some v) (ha : VRel α x x') :
    ∃ v', (Instr.field t x' f).run P w = .ok v' w ∧ VRel α v v' := by
  unfold xfield at hx
  split at hx
  · rename_i cs fields hu
    obtain ⟨cs', rfl, hr⟩ := agg_inv ha
    split at hx
    · rename_i fd hf
      obtain ⟨v', h1, h2⟩ := xpart_sound (w := w) hx hr
      refine ⟨v', ?_, h2⟩
      simp only [Instr.field, Sem.run_bind, run_underlying hu, Result.andThen, hf, asAgg, Sem.run_pure, h1]
    · cases hx
  · cases hx

theorem string_get (s : ByteArray) (i : Nat) : s[i]? = s.data.toList[i]? := by
  by_cases h : i < s.size
  · rw [getElem?_pos s i h, List.getElem?_eq_getElem (by simpa using h)]
    rfl
  · rw [getElem?_neg s i h, List.getElem?_eq_none (by simpa using h)]

theorem xindex_sound {t : TypeId} {x x' ix v : Value} (hx : xindex P t x ix = some v) (ha : VRel α x x') :
    ∃ v', (Instr.index t x' ix).run P w = .ok v' w ∧ VRel α v v' := by
  unfold xindex at hx
  split at hx
  · rename_i k i
    split at hx
    · rename_i len elem cs hu
      obtain ⟨cs', rfl, hr⟩ := agg_inv ha
      split at hx
      · rename_i hi
        split at hx
        · rename_i s hs
          obtain ⟨v', h1, h2⟩ := xpart_sound (w := w) hx hr
          refine ⟨v', ?_, h2⟩
          simp only [Instr.index, asIntOf, Sem.run_bind, Sem.run_pure, Result.andThen, run_underlying hu, if_pos hi, run_sizeOf hs, h1]
        · cases hx
      · cases hx
    · rename_i s hu
      cases ha
      split at hx
      · rename_i hi
        split at hx
        · rename_i b hb
          cases hx
          refine ⟨_, ?_, .int _ _⟩
          simp only [Instr.index, asIntOf, Sem.run_bind, Sem.run_pure, Result.andThen, run_underlying hu, if_pos hi, string_get, hb]
        · cases hx
      · cases hx
    · cases hx
  · cases hx
end
end Go.Xe
/-
  The engine, part f: values that are built, slices made and cut.
-/
set_option linter.unusedSimpArgs false
set_option linter.unusedVariables false
namespace Go.Xe
open Go

section
variable {α : Place} {S : St} {w : World} {P : Program}

theorem foldl_set (off : Nat) : ∀ (vs : List Value) (k : Nat) (c : Array Value), off + k + vs.length ≤ c.size →
    (((vs.zipIdx k).foldl (fun cs p => cs.setIfInBounds (off + p.2) p.1) c).size = c.size ∧
     ∀ j : Nat, ((vs.zipIdx k).foldl (fun cs p => cs.setIfInBounds (off + p.2) p.1) c)[j]? = if off + k ≤ j ∧ j < off + k + vs.length then vs[j - (off + k)]? else c[j]?)
  | [], k, c, _ => ⟨rfl, fun j => by rw [if_neg (by simp only [List.length_nil]; omega)]; rfl⟩
  | v :: vs, k, c, h => by
    simp only [List.length_cons] at h
    obtain ⟨h1, h2⟩ := foldl_set off vs (k + 1) (c.setIfInBounds (off + k) v) (by simp; omega)
    simp only [List.zipIdx_cons, List.foldl_cons]
    refine ⟨by rw [h1]; simp, fun j => ?_⟩
    rw [h2 j]
    by_cases hj : j = off + k
    · subst hj
      rw [if_neg (by omega), if_pos (by simp)]
      have hlt : off + k < c.size := by omega
      simp [hlt]
    · simp only [List.length_cons]
      by_cases hin : off + (k + 1) ≤ j ∧ j < off + (k + 1) + vs.length
      · rw [if_pos hin, if_pos (by omega), show j - (off + k) = (j - (off + (k + 1))) + 1 by omega, List.getElem?_cons_succ]
      · rw [if_neg hin, if_neg (by omega), Array.getElem?_setIfInBounds_ne (by omega)]

theorem fill_step (off : Nat) (v : Value) (c : Array Value) (h : off + v.cells.size ≤ c.size) :
    (v.cells.zipIdx.foldl (fun cs p => cs.setIfInBounds (off + p.2) p.1) c).toList = splice c.toList off v.cells.toList := by
  have e : v.cells.zipIdx.foldl (fun cs p => cs.setIfInBounds (off + p.2) p.1) c = (v.cells.toList.zipIdx 0).foldl (fun cs p => cs.setIfInBounds (off + p.2) p.1) c := by
    rw [← Array.foldl_toList]
    congr 1
    simp
  obtain ⟨h1, h2⟩ := foldl_set off v.cells.toList 0 c (by simpa using h)
  rw [e]
  apply List.ext_getElem?
  intro j
  rw [Array.getElem?_toList, h2 j, getElem?_splice _ _ _ _ (by simpa using h)]
  simp

theorem LRel.splice {a a' b b' : List Value} (r : LRel α a a') (s : LRel α b b') (o : Nat) : LRel α (splice a o b) (splice a' o b') := by
  unfold Xe.splice
  refine ((r.take o).append s).append ?_
  rw [← s.1]; exact r.drop _

/-- Parts, one by one. -/
def PRel (α : Place) (l l' : List (Nat × Value)) : Prop := l.length = l'.length ∧ ∀ (i : Nat) p p', l[i]? = some p → l'[i]? = some p' → p.1 = p'.1 ∧ VRel α p.2 p'.2

theorem PRel.cons_inv {p : Nat × Value} {l : List (Nat × Value)} {l' : List (Nat × Value)} (h : PRel α (p :: l) l') : ∃ p' r', l' = p' :: r' ∧ p.1 = p'.1 ∧ VRel α p.2 p'.2 ∧ PRel α l r' := by
  cases l' with
  | nil => have := h.1; simp at this
  | cons p' r' =>
    have h0 := h.2 0 p p' rfl rfl
    exact ⟨p', r', rfl, h0.1, h0.2, by have := h.1; simpa using this, fun i a a' ha ha' => h.2 (i + 1) a a' (by simpa using ha) (by simpa using ha')⟩

theorem fill_sound (place : Nat → Option (Nat × Nat)) : ∀ (parts parts' : List (Nat × Value)) (cells out : List Value) (cells' : Array Value), PRel α parts parts' → LRel α cells cells'.toList →
    xfill place cells parts = some out → ∃ out', Instr.fill place cells' parts' = some out' ∧ LRel α out out'.toList
  | [], parts', cells, out, cells', hp, hr, hx => by
    have : parts' = [] := by have := hp.1; cases parts' <;> simp_all
    subst this
    simp only [xfill] at hx; cases hx
    exact ⟨cells', rfl, hr⟩
  | (i, v) :: rest, parts', cells, out, cells', hp, hr, hx => by
    obtain ⟨⟨i', v'⟩, r', rfl, h1, h2, h3⟩ := hp.cons_inv
    simp only at h1 h2
    subst h1
    simp only [xfill] at hx
    split at hx
    · cases hx
    · rename_i off size hpl
      split at hx
      · cases hx
      · rename_i hc
        have hs := h2.size_cells
        have hlen : cells.length = cells'.size := by have := hr.1; simpa using this
        have hb : ¬(v'.cells.size ≠ size ∨ off + v'.cells.size > cells'.size) := by rw [← hs, ← hlen]; omega
        obtain ⟨out', g1, g2⟩ := fill_sound place rest r' _ out (v'.cells.zipIdx.foldl (fun cs p => cs.setIfInBounds (off + p.2) p.1) cells') h3
          (by rw [fill_step _ _ _ (by omega)]; exact hr.splice h2.cells off) hx
        refine ⟨out', ?_, g2⟩
        simp only [Instr.fill, hpl]
        rw [if_neg (by simpa using hb)]
        exact g1

theorem places_mapM : ∀ (fs : List Field) (places : List (Nat × Nat)), xplaces P fs = some places →
    (fs.mapM fun f => do pure (f.offset, ← sizeOf f.type) : Sem (List (Nat × Nat))).run P w = .ok places w
  | [], places, h => by simp only [xplaces] at h; cases h; rfl
  | f :: r, places, h => by
    simp only [xplaces] at h
    split at h
    · rename_i s l hs hl
      cases h
      have ih := places_mapM r l hl
      rw [List.mapM_cons]
      simp only [Sem.run_bind, run_sizeOf hs, Result.andThen, Sem.run_pure, ih]
    · cases h

theorem xbuild_sound {t : TypeId} {parts : List (Nat × Value)} {parts' : Array (Nat × Value)} {v : Value} (hx : xbuild P t parts = some v) (hp : PRel α parts parts'.toList) :
    ∃ v', (Instr.build t parts').run P w = .ok v' w ∧ VRel α v v' := by
  unfold xbuild at hx
  split at hx
  · rename_i z fields hz hu
    split at hx
    · rename_i places hpl
      split at hx
      · rename_i l hf
        cases hx
        obtain ⟨out', h1, h2⟩ := fill_sound (α := α) _ parts parts'.toList _ l z.cells hp (zero_rel hz α).cells hf
        refine ⟨.agg out', ?_, by have := h2.agg; simpa using this⟩
        simp only [Instr.build, Sem.run_bind, run_zero hz, Result.andThen, run_underlying hu]
        have hm := places_mapM (w := w) _ _ hpl
        have hm' : (fields.mapM fun f => do pure (f.offset, ← sizeOf f.type) : Sem (Array (Nat × Nat))).run P w = .ok places.toArray w := by
          rw [Array.mapM_eq_mapM_toList, map_eq_pure_bind, Sem.run_bind, hm]
          rfl
        rw [hm']
        simp only [List.getElem?_toArray, h1, Sem.run_pure]
      · cases hx
    · cases hx
  · rename_i z n elem hz hu
    split at hx
    · rename_i size hs
      split at hx
      · rename_i l hf
        cases hx
        obtain ⟨out', h1, h2⟩ := fill_sound (α := α) _ parts parts'.toList _ l z.cells hp (zero_rel hz α).cells hf
        refine ⟨.agg out', ?_, by have := h2.agg; simpa using this⟩
        simp only [Instr.build, Sem.run_bind, run_zero hz, Result.andThen, run_underlying hu, run_sizeOf hs, h1, Sem.run_pure]
      · cases hx
    · cases hx
  · cases hx

theorem length_zerosL (z : List Value) : ∀ n, (zerosL z n).length = n * z.length
  | 0 => by simp [zerosL]
  | n + 1 => by simp [zerosL, length_zerosL z n, Nat.succ_mul]; omega
theorem getElem?_zerosL (z : List Value) : ∀ (n j : Nat), j < n * z.length → (zerosL z n)[j]? = z[j % z.length]?
  | 0, j, h => by simp at h
  | n + 1, j, h => by
    have hz : 0 < z.length := by
      rcases Nat.eq_zero_or_pos z.length with e | e
      · rw [e] at h; simp at h
      · exact e
    simp only [zerosL]
    by_cases hj : j < z.length
    · rw [List.getElem?_append_left hj, Nat.mod_eq_of_lt hj]
    · have hsm := Nat.succ_mul n z.length
      rw [List.getElem?_append_right (by omega), getElem?_zerosL z n (j - z.length) (by simp only [Nat.succ_eq_add_one] at hsm; omega)]
      congr 1
      exact (Nat.mod_eq_sub_mod (by omega)).symm
theorem zerosL_rel {z : List Value} (h : LRel α z z) : ∀ n, LRel α (zerosL z n) (zerosL z n)
  | 0 => LRel.nil α
  | n + 1 => h.append (zerosL_rel h n)

theorem zeros_eq (z : Array Value) (n : Nat) : ((Array.range (n * z.size)).map fun i => z[i % z.size]!) = (zerosL z.toList n).toArray := by
  apply Array.ext'
  apply List.ext_getElem?
  intro j
  simp only [Array.toList_map, List.getElem?_map]
  by_cases hj : j < n * z.size
  · have hz : 0 < z.size := by
      rcases Nat.eq_zero_or_pos z.size with e | e
      · rw [e] at hj; simp at hj
      · exact e
    have hm := Nat.mod_lt j hz
    rw [getElem?_zerosL _ _ _ (by simpa using hj)]
    rw [Array.toList_range, List.getElem?_range hj]
    simp only [Option.map_some, Array.length_toList, Array.getElem?_toList]
    rw [Array.getElem?_eq_getElem hm]
    simp [getElem!_def, Array.getElem?_eq_getElem hm]
  · rw [List.getElem?_eq_none (l := zerosL z.toList n) (by rw [length_zerosL]; simpa using hj), List.getElem?_eq_none (by simpa using hj)]
    rfl

theorem xbuildSlice_sound (h : Rel α S w) {t : TypeId} {len : Nat} {parts : List (Nat × Value)} {parts' : Array (Nat × Value)} {v : Value} {S' : St}
    (hx : xbuildSlice P S t len parts = some (v, S')) (hp : PRel α parts parts'.toList) :
    ∃ β w' v', (Instr.buildSlice t len parts').run P w = .ok v' w' ∧ Next α S w β S' w' ∧ VRel β v v' := by
  unfold xbuildSlice at hx
  split at hx
  · rename_i elem hu
    split at hx
    · rename_i size z hs hz
      split at hx
      · cases hx
      · rename_i hc
        split at hx
        · rename_i l hf
          split at hx
          · rename_i S1 hrow
            cases hx
            have hzs : z.cells.size = size := by omega
            have hzr : LRel α (zerosL z.cells.toList len) (zerosL z.cells.toList len).toArray.toList := by simpa using zerosL_rel (zero_rel hz α).cells len
            obtain ⟨out', h1, h2⟩ := fill_sound (α := α) _ parts parts'.toList _ l _ hp hzr hf
            obtain ⟨β, w', g1, g2, g3⟩ := h.newRow (P := P) hrow h2 elem
            have hol : out'.size = len * size := by
              have hl := h2.1
              have : ∀ (place : Nat → Option (Nat × Nat)) (ps : List (Nat × Value)) (c o : List Value), xfill place c ps = some o → o.length = c.length := by
                intro place ps
                induction ps with
                | nil => intro c o e; simp only [xfill] at e; cases e; rfl
                | cons p r ih =>
                  intro c o e
                  obtain ⟨i, v⟩ := p
                  simp only [xfill] at e
                  split at e
                  · cases e
                  · split at e
                    · cases e
                    · rename_i off size _ hcc
                      rw [ih _ _ e, length_splice _ _ _ (by simp; omega)]
              have := this _ _ _ _ hf
              rw [length_zerosL] at this
              simp at hl this
              rw [← hl, this, hzs]
            refine ⟨β, w', .slice (some ⟨w.heap.size, 0, none⟩) len len, ?_, g2, ?_⟩
            · simp only [Instr.buildSlice, Sem.run_bind, run_underlying hu, Result.andThen, run_sizeOf hs]
              rw [if_neg (by omega)]
              have hpush : (if len * size = 0 then pure #[] else do pure (← zeroValue elem).cells : Sem (Array Value)).run P w = .ok (if len * size = 0 then #[] else z.cells) w := by
                split
                · rfl
                · simp only [Sem.run_bind, run_zero hz, Result.andThen, Sem.run_pure]
              have e : ((Array.range (len * size)).map fun i => (if len * size = 0 then #[] else z.cells)[i % (if len * size = 0 then (#[] : Array Value) else z.cells).size]!) = (zerosL z.cells.toList len).toArray := by
                by_cases h0 : len * size = 0
                · have : len = 0 := by
                    rcases Nat.mul_eq_zero.1 h0 with e | e
                    · exact e
                    · omega
                  subst this
                  simp [zerosL]
                · simp only [h0, if_false]
                  rw [← hzs]
                  exact zeros_eq _ _
              simp only [Array.toArray_toList] at g1
              by_cases h0 : len * size = 0
              · simp only [h0, if_true] at e ⊢
                rw [Sem.run_bind, Sem.run_pure]
                simp only [Result.andThen, e, h1]
                rw [Sem.run_bind, g1]
                rfl
              · simp only [h0, if_false] at e ⊢
                rw [Sem.run_bind, run_zero hz]
                simp only [Result.andThen]
                rw [Sem.run_bind, Sem.run_pure]
                simp only [Result.andThen, e, h1]
                rw [Sem.run_bind, g1]
                rfl
            · have := VRel.slice (α := β) S.next 0 len len len _ g3 (Nat.le_refl _) (Nat.le_refl _) (by simp [hol])
              simpa using this
          · cases hx
        · cases hx
    · cases hx
  · cases hx
end
end Go.Xe
