/-
  The engine, part j: copy, len, min, max, clear, maps, iterators, assertions.
-/
import Derived.Test.YtkhjbbigangbdaaDoorM02
set_option linter.unusedSimpArgs false
set_option linter.unusedVariables false
namespace Go.Xe
open Go

section
variable {α : Place} {S : St} {w : World} {P : Program}

theorem two_inv {a b : Value} {args : Array Value} (h : LRel α [a, b] args.toList) : ∃ a' b', args = #[a', b'] ∧ VRel α a a' ∧ VRel α b b' := by
  have hl := h.1
  obtain ⟨l⟩ := args
  match l, hl with
  | [x, y], _ => exact ⟨x, y, rfl, h.2 0 _ _ rfl rfl, h.2 1 _ _ rfl rfl⟩
theorem one_inv {a : Value} {args : Array Value} (h : LRel α [a] args.toList) : ∃ a', args = #[a'] ∧ VRel α a a' := by
  have hl := h.1
  obtain ⟨l⟩ := args
  match l, hl with
  | [x], _ => exact ⟨x, rfl, h.2 0 _ _ rfl rfl⟩
theorem head_of {t : TypeId} {ts : Array TypeId} {r : List TypeId} (h : ts.toList = t :: r) : ts[0]? = some t := by
  obtain ⟨l⟩ := ts
  simp at h; subst h; rfl

theorem xcopy_sound (h : Rel α S w) {ts : Array TypeId} {ty : TypeId} {args : List Value} {args' : Array Value} {v : Value} {S' : St} (hx : xcopy P S ts.toList args = some (v, S')) (hr : LRel α args args'.toList) :
    ∃ β w' v', (Builtin.copy_ ts ty args').run P w = .ok v' w' ∧ Next α S w β S' w' ∧ VRel β v v' := by
  unfold xcopy at hx
  split at hx
  case h_2 => cases hx
  rename_i t r d x hts
  obtain ⟨d', x', rfl, hrd, hrx⟩ := two_inv hr
  have e1 := head_of hts
  have e3 : (#[d', x'] : Array Value)[0]? = some d' := rfl
  have e4 : (#[d', x'] : Array Value)[1]? = some x' := rfl
  split at hx
  case h_2 => cases hx
  rename_i elem hu
  split at hx
  · rename_i size n a b hs hn
    obtain ⟨_, _, rfl⟩ := nil_slice_inv hrd
    split at hx
    · cases hx
    split at hx
    · rename_i l hl
      cases hx
      obtain ⟨l', g1, g2, g3⟩ := firstCells_sound (P := P) h hl hrx hn (by omega)
      refine ⟨α, w, _, ?_, .refl h, .int _ _⟩
      unfold Builtin.copy_
      simp only [e1, e3, e4, Sem.run_bind, run_underlying hu, Result.andThen, lenOf_sound (P := P) (w := w) hn hrx, run_sizeOf hs]
      rw [show Nat.min n 0 = min n 0 from rfl, g1]
      simp [goInt, Sem.run_pure]
    · cases hx
  · rename_i size n b o len cap hs hn
    split at hx
    · cases hx
    split at hx
    · rename_i l hl
      obtain ⟨l', g1, g2, g3⟩ := firstCells_sound (P := P) h hl hrx hn (Nat.min_le_left _ _)
      split at hx
      · rename_i h0
        cases hx
        have hnil : l' = [] := by
          have := g2.1; rw [g3, h0] at this; simp at this; exact List.eq_nil_of_length_eq_zero (by omega)
        subst hnil
        obtain ⟨a', n', c', rfl, _, hl'⟩ := isNone_of_rel_slice hrd
        subst hl'
        refine ⟨α, w, .int .i64 0, ?_, .refl h, .int _ _⟩
        unfold Builtin.copy_
        simp only [e1, e3, e4, Sem.run_bind, run_underlying hu, Result.andThen, lenOf_sound (P := P) (w := w) hn hrx, run_sizeOf hs]
        rw [show Nat.min n n' = min n n' from rfl, g1, h0]
        cases a' <;> rfl
      · rename_i h0
        split at hx
        · rename_i S1 hst
          cases hx
          rcases slice_inv hrd with ⟨l0, cap', hl0, h2, h3, h4, rfl⟩ | ⟨a', rfl, rfl, rfl⟩
          · obtain ⟨w', e5, e6⟩ := h.storeN (P := P) hl0 g2 hst
            refine ⟨α, w', .int .i64 (min n len : Nat), ?_, e6, .int _ _⟩
            unfold Builtin.copy_
            simp only [e1, e3, e4, Sem.run_bind, run_underlying hu, Result.andThen, lenOf_sound (P := P) (w := w) hn hrx, run_sizeOf hs]
            rw [show Nat.min n len = min n len from rfl, g1]
            simp only []
            rw [e5]
            rfl
          · simp at h0
        · cases hx
    · cases hx
  · cases hx

theorem xlen_sound (h : Rel α S w) {ts : Array TypeId} {ty : TypeId} {args : List Value} {args' : Array Value} {v : Value} (hx : xlen P S ts.toList args = some v) (hr : LRel α args args'.toList) :
    (Builtin.len_ ts ty args').run P w = .ok v w ∧ VRel α v v := by
  unfold xlen at hx
  split at hx
  case h_2 => cases hx
  rename_i t x hts
  obtain ⟨x', rfl, hrx⟩ := one_inv hr
  have e1 := head_of hts
  have e3 : (#[x'] : Array Value)[0]? = some x' := rfl
  unfold Builtin.len_
  simp only [e1, e3, Sem.run_bind]
  split at hx
  · rename_i s hu
    cases hx; cases hrx
    simp only [run_underlying hu, Result.andThen]
    have : s.data.toList.length = s.size := by simp
    rw [this]
    exact ⟨rfl, .int _ _⟩
  · rename_i n e hu
    cases hx
    simp only [run_underlying hu, Result.andThen]
    exact ⟨rfl, .int _ _⟩
  · rename_i e a n c hu
    cases hx
    obtain ⟨a', n', c', rfl, _, hl⟩ := isNone_of_rel_slice hrx
    subst hl
    simp only [run_underlying hu, Result.andThen]
    exact ⟨rfl, .int _ _⟩
  · rename_i k e hu
    cases hx; cases hrx
    simp only [run_underlying hu, Result.andThen]
    exact ⟨rfl, .int _ _⟩
  · rename_i k e r hu
    split at hx
    · rename_i es clock ro hg
      cases hx
      cases hrx with
      | map _ l hl =>
        obtain ⟨l', hl', h0, es', hb, hlen, _⟩ := h.ent _ _ hg
        rw [hl] at hl'; cases hl'
        simp only [run_underlying hu, Result.andThen, Sem.run_bind]
        have : (getObj l.blk).run P w = .ok (.map es' clock) w := by simp [getObj, Sem.run, hb]
        rw [this, hlen]
        exact ⟨rfl, .int _ _⟩
    · cases hx
  · cases hx

theorem min2_sound {x y v : Value} {x' y' : Value} (hx : min2 x y = some v) (hrx : VRel α x x') (hry : VRel α y y') : (Builtin.min2 x' y').run P w = .ok v w ∧ VRel α v v := by
  unfold min2 at hx
  split at hx
  · cases hx; cases hrx; cases hry
    exact ⟨rfl, .int _ _⟩
  · cases hx
theorem max2_sound {x y v : Value} {x' y' : Value} (hx : max2 x y = some v) (hrx : VRel α x x') (hry : VRel α y y') : (Builtin.max2 x' y').run P w = .ok v w ∧ VRel α v v := by
  unfold max2 at hx
  split at hx
  · cases hx; cases hrx; cases hry
    exact ⟨rfl, .int _ _⟩
  · cases hx

theorem fold2_sound {f : Value → Value → Option Value} {g : Value → Value → Sem Value} (hf : ∀ x y v x' y', f x y = some v → VRel α x x' → VRel α y y' → (g x' y').run P w = .ok v w ∧ VRel α v v) :
    ∀ (l l' : List Value) (x x' v : Value), fold2 f x l = some v → VRel α x x' → LRel α l l' → ∃ v', (l'.foldlM g x').run P w = .ok v' w ∧ VRel α v v'
  | [], l', x, x', v, h, hx, hl => by
    have : l' = [] := by have := hl.1; cases l' <;> simp_all
    subst this
    simp only [fold2] at h; cases h
    exact ⟨x', rfl, hx⟩
  | y :: r, l', x, x', v, h, hx, hl => by
    simp only [fold2] at h
    split at h
    · rename_i z hz
      cases l' with
      | nil => have := hl.1; simp at this
      | cons y' r' =>
        have hy := hl.2 0 y y' rfl rfl
        obtain ⟨h1, h2⟩ := hf _ _ _ _ _ hz hx hy
        have hr : LRel α r r' := ⟨by have := hl.1; simpa using this, fun i a b ha hb => hl.2 (i + 1) a b (by simpa using ha) (by simpa using hb)⟩
        obtain ⟨v', g1, g2⟩ := fold2_sound hf r r' z z v h h2 hr
        exact ⟨v', by rw [List.foldlM_cons, Sem.run_bind, h1]; exact g1, g2⟩
    · cases h

def xminmax (f : Value → Value → Option Value) (args : List Value) : Option Value :=
  match args with
  | [] => none
  | x :: r => fold2 f x r
theorem xmin_sound {ts : Array TypeId} {ty : TypeId} {args : List Value} {args' : Array Value} {v : Value} (hx : xminmax min2 args = some v) (hr : LRel α args args'.toList) :
    ∃ v', (Builtin.min_ ts ty args').run P w = .ok v' w ∧ VRel α v v' := by
  unfold xminmax at hx
  split at hx
  · cases hx
  · rename_i x r
    cases hl : args'.toList with
    | nil => rw [hl] at hr; have := hr.1; simp at this
    | cons y s =>
      rw [hl] at hr
      obtain ⟨v', g1, g2⟩ := fold2_sound (P := P) (w := w) (fun x y v x' y' => min2_sound) r s x y v hx (hr.2 0 _ _ rfl rfl) ⟨by have := hr.1; simpa using this, fun i a b ha hb => hr.2 (i + 1) a b (by simpa using ha) (by simpa using hb)⟩
      exact ⟨v', by simp only [Builtin.min_, hl]; exact g1, g2⟩
theorem xmax_sound {ts : Array TypeId} {ty : TypeId} {args : List Value} {args' : Array Value} {v : Value} (hx : xminmax max2 args = some v) (hr : LRel α args args'.toList) :
    ∃ v', (Builtin.max_ ts ty args').run P w = .ok v' w ∧ VRel α v v' := by
  unfold xminmax at hx
  split at hx
  · cases hx
  · rename_i x r
    cases hl : args'.toList with
    | nil => rw [hl] at hr; have := hr.1; simp at this
    | cons y s =>
      rw [hl] at hr
      obtain ⟨v', g1, g2⟩ := fold2_sound (P := P) (w := w) (fun x y v x' y' => max2_sound) r s x y v hx (hr.2 0 _ _ rfl rfl) ⟨by have := hr.1; simpa using this, fun i a b ha hb => hr.2 (i + 1) a b (by simpa using ha) (by simpa using hb)⟩
      exact ⟨v', by simp only [Builtin.max_, hl]; exact g1, g2⟩

theorem xclear_sound (h : Rel α S w) {ts : Array TypeId} {ty : TypeId} {args : List Value} {args' : Array Value} {v : Value} {S' : St} (hx : xclear P S ts.toList args = some (v, S')) (hr : LRel α args args'.toList) :
    ∃ w', (Builtin.clear_ ts ty args').run P w = .ok v w' ∧ Next α S w α S' w' ∧ v = .tuple #[] := by
  unfold xclear at hx
  split at hx
  case h_2 => cases hx
  rename_i t r x hts
  obtain ⟨x', rfl, hrx⟩ := one_inv hr
  have e1 := head_of hts
  have e3 : (#[x'] : Array Value)[0]? = some x' := rfl
  unfold Builtin.clear_
  simp only [e1, e3, Sem.run_bind]
  split at hx
  · rename_i e a c hu
    cases hx
    obtain ⟨a', n', c', rfl, _, hl⟩ := isNone_of_rel_slice hrx
    subst hl
    refine ⟨w, ?_, .refl h, rfl⟩
    simp only [run_underlying hu, Result.andThen]
    cases a' <;> rfl
  · rename_i elem b o n cap hne hu
    split at hx
    · rename_i z s hz hs
      split at hx
      · rename_i hc
        split at hx
        · rename_i S1 hst
          cases hx
          rcases slice_inv hrx with ⟨l, cap', hl, h2, h3, h4, rfl⟩ | ⟨a', rfl, rfl, rfl⟩
          · obtain ⟨w', e5, e6⟩ := h.storeN (P := P) hl (zerosL_rel (zero_rel hz α).cells n) hst
            refine ⟨w', ?_, e6, rfl⟩
            have hzc : (Builtin.zeroCells z.cells n).toList = zerosL z.cells.toList n := by
              have := zeros_eq z.cells n
              unfold Builtin.zeroCells
              rw [this]
            cases n with
            | zero => exact (hne rfl).elim
            | succ n =>
              simp only [run_underlying hu, Result.andThen]
              simp only [Sem.run_bind, run_zero hz, Result.andThen, hzc, e5]
              rfl
          · exact (hne rfl).elim
        · cases hx
      · cases hx
    · cases hx
  · cases hx
/-! Maps. -/

theorem keySame_sound {kind : TypeDesc} {k k' e e' : Value} {b : Bool} (h : keySame kind k e = some b) (hk : VRel α k k') (he : VRel α e e') :
    Instr.sameNow kind k' e' = some b ∧ (b = true → Instr.sameBits 10000 e' k' = true) := by
  unfold keySame at h
  split at h
  · split at h
    · rename_i hkk
      cases h; cases hk; cases he
      subst hkk
      refine ⟨by simp [Instr.sameNow]; rfl, fun hb => ?_⟩
      simp only [decide_eq_true_eq] at hb
      subst hb
      simp [Instr.sameBits]
    · cases h
  · cases h; cases hk; cases he
    refine ⟨by simp only [Instr.sameNow, beqBytes_eq, beq_toListBytes, ByteArray.toList_eq], fun hb => ?_⟩
    simp only [Instr.sameBits]
    rw [beq_toListBytes, ByteArray.toList_eq, ByteArray.toList_eq]
    rw [beqBytes_eq] at hb
    simp only [beq_iff_eq] at hb ⊢
    exact hb.symm
  · cases h; cases hk; cases he
    refine ⟨rfl, fun hb => ?_⟩
    simp only [beq_iff_eq] at hb
    subst hb
    simp [Instr.sameBits]
  · cases h

/-- Entries, one by one. -/
def MRel (α : Place) (es es' : List MapEntry) : Prop :=
  es.length = es'.length ∧ ∀ (i : Nat) e e', es[i]? = some e → es'[i]? = some e' → VRel α e.key e'.key ∧ VRel α e.val e'.val ∧ e.born = e'.born

theorem MRel.cons_inv {e : MapEntry} {l l' : List MapEntry} (h : MRel α (e :: l) l') : ∃ e' r', l' = e' :: r' ∧ VRel α e.key e'.key ∧ VRel α e.val e'.val ∧ e.born = e'.born ∧ MRel α l r' := by
  cases l' with
  | nil => have := h.1; simp at this
  | cons e' r' =>
    obtain ⟨a, b, c⟩ := h.2 0 e e' rfl rfl
    exact ⟨e', r', rfl, a, b, c, by have := h.1; simpa using this, fun i x y hx hy => h.2 (i + 1) x y (by simpa using hx) (by simpa using hy)⟩

theorem xfind_sound {kind : TypeDesc} {k k' : Value} (hk : VRel α k k') : ∀ (es es' : List MapEntry) (i : Nat) (r : Option (Nat × Value)), MRel α es es' → xfind kind k es i = some r →
    ∃ r', Instr.findNow kind k' es' i = some r' ∧ (r = none → r' = none) ∧
      ∀ j v, r = some (j, v) → i ≤ j ∧ ∃ v' e e', r' = some (j, v') ∧ VRel α v v' ∧ es[j - i]? = some e ∧ es'[j - i]? = some e' ∧ Instr.sameBits 10000 e'.key k' = true
  | [], es', i, r, hm, h => by
    have : es' = [] := by have := hm.1; cases es' <;> simp_all
    subst this
    simp only [xfind] at h; cases h
    exact ⟨none, rfl, fun _ => rfl, fun j v e => by cases e⟩
  | e :: es, es', i, r, hm, h => by
    obtain ⟨e', r', rfl, h1, h2, h3, h4⟩ := hm.cons_inv
    simp only [xfind] at h
    split at h
    · rename_i hs
      cases h
      obtain ⟨g1, g2⟩ := keySame_sound hs hk h1
      refine ⟨some (i, e'.val), by simp only [Instr.findNow, g1], (fun x => by cases x), fun j v x => ?_⟩
      cases x
      exact ⟨Nat.le_refl _, e'.val, e, e', rfl, h2, by simp, by simp, g2 rfl⟩
    · rename_i hs
      obtain ⟨g1, _⟩ := keySame_sound hs hk h1
      obtain ⟨r2, f1, f2, f3⟩ := xfind_sound hk es r' (i + 1) r h4 h
      refine ⟨r2, by simp only [Instr.findNow, g1, f1], f2, fun j v x => ?_⟩
      obtain ⟨hle, v', a, a', y1, y2, y3, y4, y5⟩ := f3 j v x
      refine ⟨by omega, v', a, a', y1, y2, ?_, ?_, y5⟩
      · rw [show j - i = (j - (i + 1)) + 1 by omega, List.getElem?_cons_succ]; exact y3
      · rw [show j - i = (j - (i + 1)) + 1 by omega, List.getElem?_cons_succ]; exact y4
    · cases h

theorem run_getObj {r : Nat} {es : Array MapEntry} {clock : Nat} (h : w.heap[r]? = some (.map es clock)) : (getObj r).run P w = .ok (.map es clock) w := by
  simp [getObj, Sem.run, h]

theorem run_checkKey {key : TypeId} {kind : TypeDesc} {k : Value} (b : Bool) (n : Nat) (hu : P.underlying key = some kind) (hk : keyKind kind = true) (w : World) :
    (Instr.checkKey b (n + 1) key k).run P w = .ok () w := by
  simp only [Instr.checkKey, Sem.run_bind, run_underlying hu, Result.andThen]
  cases kind <;> first | rfl | simp [keyKind] at hk

theorem run_findKey {key : TypeId} {kind : TypeDesc} {k : Value} {es : List MapEntry} {r : Option (Nat × Value)} (hu : P.underlying key = some kind) (h : Instr.findNow kind k es 0 = some r) (w : World) :
    (Instr.findKey key k es).run P w = .ok r w := by
  simp only [Instr.findKey, Sem.run_bind, run_underlying hu, Result.andThen, h]
  rfl

theorem Rel.mapAt (h : Rel α S w) {r : Nat} {l : Loc} (hl : α r = some l) {es : List MapEntry} {clock : Nat} {ro : Bool} (hg : S.heap.get r = some (.map es clock ro)) :
    l.off = 0 ∧ ∃ es' : Array MapEntry, w.heap[l.blk]? = some (.map es' clock) ∧ MRel α es es'.toList := by
  obtain ⟨l', hl', h0, es', hb, hlen, he⟩ := h.ent _ _ hg
  rw [hl] at hl'; cases hl'
  exact ⟨h0, es', hb, by simpa using hlen, fun i a b ha hb => he i a b ha (by simpa using hb)⟩

theorem map_inv {r : Nat} {v : Value} (h : VRel α (.map (some r)) v) : ∃ l, α r = some l ∧ v = .map (some l.blk) := by
  cases h with
  | map i l h => exact ⟨l, h, rfl⟩

theorem pair_rel {a a' b b' : Value} (h1 : VRel α a a') (h2 : VRel α b b') : VRel α (.tuple #[a, b]) (.tuple #[a', b']) :=
  LRel.tuple (.cons h1 (.cons h2 (.nil _)))

theorem xlookup_sound (h : Rel α S w) {t : TypeId} {x x' k k' v : Value} {ok : Bool} (hx : xlookup P S t x k ok = some v) (hrx : VRel α x x') (hrk : VRel α k k') :
    ∃ v', (Instr.lookup t x' k' ok).run P w = .ok v' w ∧ VRel α v v' := by
  unfold xlookup at hx
  split at hx
  case h_2 => cases hx
  rename_i key elem hu
  split at hx
  case h_2 => cases hx
  rename_i kind hk
  split at hx
  · cases hx
  rename_i hkk
  have hkk : keyKind kind = true := by simpa using hkk
  have fin : ∀ (es : List MapEntry) (es' : Array MapEntry), MRel α es es'.toList → ∀ v,
      (match xfind kind k es 0 with
        | none => none
        | some (some (_, v)) => some (if ok then .tuple #[v, .bool true] else v)
        | some none => match zeroT P elem with
          | some z => some (if ok then .tuple #[z, .bool false] else z)
          | none => none) = some v →
      (∃ j u', (Instr.findKey key k' es'.toList).run P w = .ok (some (j, u')) w ∧ VRel α v (if ok then .tuple #[u', .bool true] else u')) ∨
      (∃ z, (Instr.findKey key k' es'.toList).run P w = .ok none w ∧ zeroT P elem = some z ∧ VRel α v (if ok then .tuple #[z, .bool false] else z)) := by
    intro es es' hm v hv
    split at hv
    · cases hv
    · rename_i j u hf
      cases hv
      obtain ⟨r', g1, _, g3⟩ := xfind_sound hrk _ _ 0 _ hm hf
      obtain ⟨_, v', e, e', y1, y2, _, _, _⟩ := g3 j u rfl
      subst y1
      refine .inl ⟨j, v', run_findKey hk g1 w, ?_⟩
      cases ok
      · exact y2
      · exact pair_rel y2 (.bool _)
    · rename_i hf
      split at hv
      · rename_i z hz
        cases hv
        obtain ⟨r', g1, g2, _⟩ := xfind_sound hrk _ _ 0 _ hm hf
        have := g2 rfl
        subst this
        refine .inr ⟨z, run_findKey hk g1 w, hz, ?_⟩
        cases ok
        · exact zero_rel hz α
        · exact pair_rel (zero_rel hz α) (.bool _)
      · cases hv
  split at hx
  · cases hx
  · rename_i es hes
    unfold xents at hes
    split at hes
    · cases hes
      cases hrx
      rcases fin [] #[] ⟨rfl, fun i a b ha => by simp at ha⟩ v hx with ⟨j, u', g1, g2⟩ | ⟨z, g1, hz, g2⟩
      · refine ⟨_, ?_, g2⟩
        simp only [Instr.lookup, Sem.run_bind, run_underlying hu, Result.andThen, Sem.run_pure, run_checkKey _ 9999 hk hkk, g1]
      · refine ⟨_, ?_, g2⟩
        simp only [Instr.lookup, Sem.run_bind, run_underlying hu, Result.andThen, Sem.run_pure, run_checkKey _ 9999 hk hkk, g1, run_zero hz]
    · rename_i r
      split at hes
      · rename_i es0 clock ro hg
        cases hes
        obtain ⟨l, hl, rfl⟩ := map_inv hrx
        obtain ⟨h0, es', hb, hm⟩ := h.mapAt hl hg
        rcases fin es es' hm v hx with ⟨j, u', g1, g2⟩ | ⟨z, g1, hz, g2⟩
        · refine ⟨_, ?_, g2⟩
          simp only [Instr.lookup, Sem.run_bind, run_underlying hu, Result.andThen, run_getObj hb, Sem.run_pure, run_checkKey _ 9999 hk hkk, g1]
        · refine ⟨_, ?_, g2⟩
          simp only [Instr.lookup, Sem.run_bind, run_underlying hu, Result.andThen, run_getObj hb, Sem.run_pure, run_checkKey _ 9999 hk hkk, g1, run_zero hz]
      · cases hes
    · cases hes

theorem getElem?_setEnt : ∀ (es : List MapEntry) (i : Nat) (k v : Value) (j : Nat), (setEnt es i k v)[j]? = if i = j then (es[j]?).map (fun e => { e with key := k, val := v }) else es[j]?
  | [], i, k, v, j => by simp [setEnt]
  | e :: r, 0, k, v, j => by cases j <;> simp [setEnt]
  | e :: r, i + 1, k, v, j => by
    cases j with
    | zero => simp [setEnt]
    | succ j => simp only [setEnt, List.getElem?_cons_succ, getElem?_setEnt r i k v j, Nat.add_right_cancel_iff]
theorem length_setEnt : ∀ (es : List MapEntry) (i : Nat) (k v : Value), (setEnt es i k v).length = es.length
  | [], i, k, v => rfl
  | e :: r, 0, k, v => rfl
  | e :: r, i + 1, k, v => by simp [setEnt, length_setEnt r i k v]

theorem run_setObj {r : Nat} {es es2 : Array MapEntry} {c c2 : Nat} (h : w.heap[r]? = some (.map es c)) :
    (setObj r (.map es2 c2)).run P w = .ok () { w with heap := w.heap.setIfInBounds r (.map es2 c2) } := by
  simp [setObj, Sem.run, h]

/-- A map's entries are others. -/
theorem Next.mapTo (h : Rel α S w) {r : Nat} {l : Loc} (hl : α r = some l) {es : List MapEntry} {clock : Nat} (hg : S.heap.get r = some (.map es clock false)) (es2 : List MapEntry) (es2' : Array MapEntry) (c2 : Nat) (hm : MRel α es2 es2'.toList) :
    Next α S w α (S.put r (.map es2 c2 false)) { w with heap := w.heap.setIfInBounds l.blk (.map es2' c2) } := by
  obtain ⟨h0, es', hb, _⟩ := h.mapAt hl hg
  have hlt : l.blk < w.heap.size := h.size _ _ hl
  refine Next.write h hg rfl hl _ rfl (fun b hb => ?_) (by simp) ⟨rfl, rfl, rfl⟩ ⟨h0, es2', ?_, by have := hm.1; simpa using this, fun i a b ha hb => hm.2 i a b ha (by simpa using hb)⟩
  · simp only [Array.getElem?_setIfInBounds_ne (Ne.symm hb)]
  · simp [hlt]

theorem xupdate_sound (h : Rel α S w) {t : TypeId} {m m' k k' v v' : Value} {S' : St} (hx : xupdate P S t m k v = some S') (hrm : VRel α m m') (hrk : VRel α k k') (hrv : VRel α v v') :
    ∃ w', (Instr.mapUpdate t m' k' v').run P w = .ok () w' ∧ Next α S w α S' w' := by
  unfold xupdate at hx
  split at hx
  case h_2 => cases hx
  rename_i key elem hu
  split at hx
  case h_2 => cases hx
  rename_i kind r hk
  split at hx
  · cases hx
  rename_i hkk
  have hkk : keyKind kind = true := by simpa using hkk
  split at hx
  case h_2 => cases hx
  rename_i es clock hg
  obtain ⟨l, hl, rfl⟩ := map_inv hrm
  obtain ⟨h0, es', hb, hm⟩ := h.mapAt hl hg
  split at hx
  · cases hx
  · rename_i j u hf
    cases hx
    obtain ⟨r', g1, _, g3⟩ := xfind_sound hrk _ _ 0 _ hm hf
    obtain ⟨_, u', e, e', y1, y2, y3, y4, y5⟩ := g3 j u rfl
    subst y1
    simp only [Nat.sub_zero] at y3 y4
    refine ⟨_, ?_, Next.mapTo h hl hg _ (es'.modify j fun e => { e with key := k', val := v' }) _ ?_⟩
    · have hold : ((es'[j]?).map (·.key)).getD k' = e'.key := by rw [Array.getElem?_toList] at y4; rw [y4]; rfl
      simp only [Instr.mapUpdate, Sem.run_bind, run_underlying hu, Result.andThen, run_getObj hb, run_checkKey _ 9999 hk hkk, run_findKey hk g1, hold, Instr.keyThatStays]
      rw [if_pos y5]
      simp only [Sem.run_pure]
      exact run_setObj hb
    · refine ⟨by rw [length_setEnt]; simpa using hm.1, fun i a b ha hb => ?_⟩
      rw [getElem?_setEnt] at ha
      rw [Array.getElem?_toList, Array.getElem?_modify] at hb
      by_cases hij : j = i
      · subst hij
        rw [if_pos rfl, y3] at ha
        rw [Array.getElem?_toList] at y4
        have hborn := (hm.2 j _ _ y3 (by rw [Array.getElem?_toList]; exact y4)).2.2
        rw [if_pos rfl, y4] at hb
        cases ha; cases hb
        exact ⟨hrk, hrv, hborn⟩
      · rw [if_neg hij] at ha hb
        exact hm.2 i a b ha (by rw [Array.getElem?_toList]; exact hb)
  · rename_i hf
    cases hx
    obtain ⟨r', g1, g2, _⟩ := xfind_sound hrk _ _ 0 _ hm hf
    have := g2 rfl
    subst this
    refine ⟨_, ?_, Next.mapTo h hl hg _ (es'.push { key := k', val := v', born := clock }) _ ?_⟩
    · simp only [Instr.mapUpdate, Sem.run_bind, run_underlying hu, Result.andThen, run_getObj hb, run_checkKey _ 9999 hk hkk, run_findKey hk g1]
      exact run_setObj hb
    · have hlen := hm.1
      refine ⟨by simp at hlen ⊢; exact hlen, fun i a b ha hb => ?_⟩
      rw [Array.toList_push] at hb
      by_cases hi : i < es.length
      · rw [List.getElem?_append_left hi] at ha
        rw [List.getElem?_append_left (by omega)] at hb
        exact hm.2 i a b ha hb
      · rw [List.getElem?_append_right (by omega)] at ha
        rw [List.getElem?_append_right (by omega), ← hlen] at hb
        cases hj : i - es.length with
        | zero => rw [hj] at ha hb; simp at ha hb; subst ha; subst hb; exact ⟨hrk, hrv, rfl⟩
        | succ n => rw [hj] at ha; simp at ha

theorem xdelete_sound (h : Rel α S w) {ts : Array TypeId} {ty : TypeId} {args : List Value} {args' : Array Value} {v : Value} {S' : St} (hx : xdelete P S ts.toList args = some (v, S')) (hr : LRel α args args'.toList) :
    ∃ w', (Builtin.delete_ ts ty args').run P w = .ok v w' ∧ Next α S w α S' w' ∧ v = .tuple #[] := by
  unfold xdelete at hx
  split at hx
  case h_2 => cases hx
  rename_i t r m k hts
  obtain ⟨m', k', rfl, hrm, hrk⟩ := two_inv hr
  have e1 := head_of hts
  have e3 : (#[m', k'] : Array Value)[0]? = some m' := rfl
  have e4 : (#[m', k'] : Array Value)[1]? = some k' := rfl
  unfold Builtin.delete_
  simp only [e1, e3, e4, Sem.run_bind]
  split at hx
  case h_2 => cases hx
  rename_i key elem hu
  split at hx
  · rename_i kind r hk
    split at hx
    · cases hx
    rename_i hkk
    have hkk : keyKind kind = true := by simpa using hkk
    split at hx
    case h_2 => cases hx
    rename_i es clock hg
    obtain ⟨l, hl, rfl⟩ := map_inv hrm
    obtain ⟨h0, es', hb, hm⟩ := h.mapAt hl hg
    split at hx
    · cases hx
    · rename_i j u hf
      cases hx
      obtain ⟨r', g1, _, g3⟩ := xfind_sound hrk _ _ 0 _ hm hf
      obtain ⟨_, u', e, e', y1, y2, y3, y4, y5⟩ := g3 j u rfl
      subst y1
      refine ⟨_, ?_, Next.mapTo h hl hg _ (es'.eraseIdxIfInBounds j) _ ?_, rfl⟩
      · simp only [run_underlying hu, Result.andThen, Sem.run_bind, run_getObj hb, run_checkKey _ 9999 hk hkk, run_findKey hk g1, run_setObj hb]
        rfl
      · have he : (es'.eraseIdxIfInBounds j).toList = es'.toList.eraseIdx j := by
          unfold Array.eraseIdxIfInBounds
          split
          · rw [Array.toList_eraseIdx]
          · rw [List.eraseIdx_of_length_le (by simp; omega)]
        rw [he]
        have hlen := hm.1
        refine ⟨by rw [List.length_eraseIdx, List.length_eraseIdx, hlen], fun i a b ha hb => ?_⟩
        rw [List.getElem?_eraseIdx] at ha hb
        split at ha
        · rename_i hij; rw [if_pos hij] at hb; exact hm.2 i a b ha hb
        · rename_i hij; rw [if_neg hij] at hb; exact hm.2 _ a b ha hb
    · rename_i hf
      cases hx
      obtain ⟨r', g1, g2, _⟩ := xfind_sound hrk _ _ 0 _ hm hf
      have := g2 rfl
      subst this
      have hself : w.heap.setIfInBounds l.blk (.map es' clock) = w.heap := by
        apply Array.ext_getElem?
        intro i
        by_cases hi : l.blk = i
        · subst hi
          have := (Array.getElem?_eq_some_iff.1 hb).1
          rw [hb]
          simp [this]
        · rw [Array.getElem?_setIfInBounds_ne hi]
      refine ⟨w, ?_, .refl h, rfl⟩
      simp only [run_underlying hu, Result.andThen, Sem.run_bind, run_getObj hb, run_checkKey _ 9999 hk hkk, run_findKey hk g1, run_setObj hb, hself]
      rfl
  · rename_i kind hk
    split at hx
    · rename_i hkk
      cases hx
      cases hrm
      refine ⟨w, ?_, .refl h, rfl⟩
      simp only [run_underlying hu, Result.andThen, Sem.run_bind, run_checkKey _ 9999 hk hkk]
      rfl
    · cases hx
  · cases hx
end
end Go.Xe
/-
  The engine, part k: iterators, assertions; one operation of whatever kind.
-/
set_option linter.unusedSimpArgs false
set_option linter.unusedVariables false
namespace Go.Xe
open Go

section
variable {α : Place} {S : St} {w : World} {P : Program}

theorem run_newObj (o : Obj) (w : World) : (newObj o).run P w = .ok w.heap.size { w with heap := w.heap.push o } := rfl

theorem newIter_rel {β : Place} {i : Nat} {l : Loc} (h : β i = some l) (h0 : l.off = 0) : VRel β (.pointer (some ⟨i, 0, none⟩)) (.pointer (some ⟨l.blk, 0, none⟩)) := by
  have := VRel.ptr (α := β) i 0 l h
  rw [h0] at this
  exact this

theorem xrange_sound (h : Rel α S w) {t : TypeId} {x x' v : Value} {S' : St} (hx : xrange P S t x = some (v, S')) (hr : VRel α x x') :
    ∃ β w' v', (Instr.range t x').run P w = .ok v' w' ∧ Next α S w β S' w' ∧ VRel β v v' := by
  unfold xrange at hx
  split at hx
  · rename_i s hu
    cases hx; cases hr
    refine ⟨_, { w with heap := w.heap.push (.stringIter s 0) }, .pointer (some ⟨w.heap.size, 0, none⟩), ?_, Next.new h (.siter s 0) rfl _ 0 0 rfl ⟨rfl, rfl, rfl⟩ ⟨rfl, by simp⟩, newIter_rel (Place.upd_same _ _ _) rfl⟩
    simp only [Instr.range, Sem.run_bind, run_underlying hu, Result.andThen, Sem.run_pure, run_newObj]
  · rename_i k e m hu
    obtain ⟨l, hl, rfl⟩ := map_inv hr
    split at hx
    · rename_i es clock ro hg
      cases hx
      obtain ⟨h0, es', hb, hm⟩ := h.mapAt hl hg
      refine ⟨_, { w with heap := w.heap.push (.mapIter (some l.blk) clock #[] clock) }, .pointer (some ⟨w.heap.size, 0, none⟩), ?_, Next.new h (.iter m clock [] clock) rfl _ 0 0 rfl ⟨rfl, rfl, rfl⟩ ⟨rfl, l, h.ext _ _ _ hl, by simp⟩, newIter_rel (Place.upd_same _ _ _) rfl⟩
      simp only [Instr.range, Sem.run_bind, run_underlying hu, Result.andThen, Sem.run_pure, run_newObj, run_getObj hb]
    · cases hx
  · cases hx

theorem MRel.filter {p p' : MapEntry → Bool} (hp : ∀ e e' : MapEntry, e.born = e'.born → p e = p' e') : ∀ (es es' : List MapEntry), MRel α es es' → MRel α (es.filter p) (es'.filter p')
  | [], es', h => by
    have : es' = [] := by have := h.1; cases es' <;> simp_all
    subst this
    exact ⟨rfl, fun i a b ha => by simp at ha⟩
  | e :: es, es', h => by
    obtain ⟨e', r', rfl, h1, h2, h3, h4⟩ := h.cons_inv
    have ih := MRel.filter hp es r' h4
    simp only [List.filter_cons, hp e e' h3]
    split
    · refine ⟨by simp [ih.1], fun i a b ha hb => ?_⟩
      cases i with
      | zero => simp at ha hb; subst ha; subst hb; exact ⟨h1, h2, h3⟩
      | succ i => exact ih.2 i a b (by simpa using ha) (by simpa using hb)
    · exact ih

theorem MRel.all {p p' : MapEntry → Bool} (hp : ∀ e e' : MapEntry, e.born = e'.born → p e = p' e') : ∀ (es es' : List MapEntry), MRel α es es' → es.all p = es'.all p'
  | [], es', h => by
    have : es' = [] := by have := h.1; cases es' <;> simp_all
    subst this; rfl
  | e :: es, es', h => by
    obtain ⟨e', r', rfl, h1, h2, h3, h4⟩ := h.cons_inv
    simp only [List.all_cons, hp e e' h3, MRel.all hp es r' h4]

theorem run_choose_one (w : World) : (choose (.mapNext 1)).run P w = .ok 0 w := rfl

theorem iter_write (h : Rel α S w) {r : Nat} {l : Loc} (hl : α r = some l) {e0 : Ent} (hg : S.heap.get r = some e0) (hro : e0.ro = false) (e : Ent) (hero : e.ro = false) (o : Obj)
    (he : EntRel α { w with heap := w.heap.setIfInBounds l.blk o } l e) : Next α S w α (S.put r e) { w with heap := w.heap.setIfInBounds l.blk o } :=
  Next.write h hg hro hl e hero (fun b hb => by simp only [Array.getElem?_setIfInBounds_ne (Ne.symm hb)]) (by simp) ⟨rfl, rfl, rfl⟩ he

theorem MRel.find {p p' : MapEntry → Bool} (hp : ∀ e e', e.born = e'.born → p e = p' e') : ∀ (es es' : List MapEntry), MRel α es es' → ∀ e, es.find? p = some e → ∃ e', es'.find? p' = some e' ∧ VRel α e.key e'.key ∧ VRel α e.val e'.val
  | [], _, _, e, hf => by simp at hf
  | x :: es, es', h, e, hf => by
    obtain ⟨x', r', rfl, h1, h2, h3, h4⟩ := h.cons_inv
    rw [List.find?_cons] at hf ⊢
    rw [← hp x x' h3]
    cases hx : p x with
    | true => rw [hx] at hf; cases hf; exact ⟨x', rfl, h1, h2⟩
    | false => rw [hx] at hf; exact MRel.find hp es r' h4 e hf

theorem xentry_sound (h : Rel α S w) {it it' v : Value} (hx : xentry S it = some v) (hr : VRel α it it') :
    ∃ v', (Instr.entry it').run P w = .ok v' w ∧ VRel α v v' := by
  unfold xentry at hx
  split at hx
  case h_2 => cases hx
  rename_i r
  obtain ⟨l, hl, rfl⟩ := ptr_inv hr
  split at hx
  case h_2 => cases hx
  rename_i m since seen stepped hg
  obtain ⟨l', hl', hent⟩ := h.ent _ _ hg
  rw [hl] at hl'; cases hl'
  obtain ⟨h0, lm, hlm, hb⟩ := hent
  have hget : (getObj l.blk).run P w = .ok (.mapIter (some lm.blk) since seen.toArray stepped) w := by simp [getObj, Sem.run, hb]
  split at hx
  case h_2 => cases hx
  rename_i es clock ro stamp hgm hs
  obtain ⟨h0m, es', hbm, hm⟩ := h.mapAt hlm hgm
  have hgetm : (getObj lm.blk).run P w = .ok (.map es' clock) w := by simp [getObj, Sem.run, hbm]
  split at hx
  case isFalse => cases hx
  rename_i hc
  split at hx
  case h_2 => cases hx
  rename_i e he
  cases hx
  obtain ⟨e', he', hk, hv⟩ := MRel.find (α := α) (p := fun e => e.born == stamp) (p' := fun e => e.born == stamp) (fun e e' hh => by simp [hh]) es es'.toList hm e he
  have hbk : seen.toArray.back? = some stamp := by rw [List.back?_toArray]; exact hs
  have hfd : es'.find? (fun e => e.born == stamp) = some e' := by rw [← Array.find?_toList]; exact he'
  refine ⟨.tuple #[e'.key, e'.val], ?_, LRel.tuple (.cons hk (.cons hv (.nil _)))⟩
  simp only [Instr.entry, h0, Nat.add_zero, Sem.run_bind, hget, Result.andThen, hbk, hgetm]
  subst hc
  simp only [bne_self_eq_false, Bool.false_eq_true, if_false, hfd]
  rfl

theorem xnext_sound (h : Rel α S w) {it it' v : Value} {s : Bool} {ty : TypeId} {S' : St} (hx : xnext S it s = some (v, S')) (hr : VRel α it it') :
    ∃ w' v', (Instr.next it' s ty).run P w = .ok v' w' ∧ Next α S w α S' w' ∧ VRel α v v' := by
  unfold xnext at hx
  split at hx
  case h_2 => cases hx
  rename_i r
  obtain ⟨l, hl, rfl⟩ := ptr_inv hr
  split at hx
  · rename_i str pos hg
    obtain ⟨l', hl', hent⟩ := h.ent _ _ hg
    rw [hl] at hl'; cases hl'
    obtain ⟨h0, hb⟩ := hent
    have hlt : l.blk < w.heap.size := h.size _ _ hl
    have hget : (getObj l.blk).run P w = .ok (.stringIter str pos) w := by simp [getObj, Sem.run, hb]
    have hsz : str.data.toList.length = str.size := by simp
    split at hx
    · rename_i hpos
      cases hx
      rw [hsz] at hpos
      refine ⟨_, .tuple #[.bool true, .int .i64 pos, .int .i32 (Utf8.decode str pos).1], ?_, iter_write h hl hg rfl _ rfl (.stringIter str (pos + (Utf8.decode str pos).2)) ⟨h0, by simp [hlt]⟩, ?_⟩
      · simp only [Instr.next, h0, Nat.add_zero, Sem.run_bind, hget, Result.andThen]
        rw [if_pos hpos]
        simp only [Sem.run_bind]
        have hset : (setObj l.blk (.stringIter str (pos + (Utf8.decode str pos).2))).run P w = .ok () { w with heap := w.heap.setIfInBounds l.blk (.stringIter str (pos + (Utf8.decode str pos).2)) } := by
          simp [setObj, Sem.run, hb]
        rw [hset]
        rfl
      · exact LRel.tuple (.cons (.bool _) (.cons (.int _ _) (.cons (.int _ _) (.nil _))))
    · rename_i hpos
      cases hx
      rw [hsz] at hpos
      refine ⟨w, .tuple #[.bool false], ?_, .refl h, LRel.tuple (.cons (.bool _) (.nil _))⟩
      simp only [Instr.next, h0, Nat.add_zero, Sem.run_bind, hget, Result.andThen]
      rw [if_neg hpos]
      rfl
  · rename_i m since seen last hg
    obtain ⟨l', hl', hent⟩ := h.ent _ _ hg
    rw [hl] at hl'; cases hl'
    obtain ⟨h0, lm, hlm, hb⟩ := hent
    have hlt : l.blk < w.heap.size := h.size _ _ hl
    have hget : (getObj l.blk).run P w = .ok (.mapIter (some lm.blk) since seen.toArray last) w := by simp [getObj, Sem.run, hb]
    split at hx
    case h_2 => cases hx
    rename_i es clock ro hgm
    obtain ⟨h0m, es', hbm, hm⟩ := h.mapAt hlm hgm
    split at hx
    · cases hx
    rename_i hunsup
    have hempty : es.isEmpty = es'.isEmpty := by
      have := hm.1
      rw [Bool.eq_iff_iff]
      simp only [List.isEmpty_iff_length_eq_zero, Array.isEmpty_iff_size_eq_zero]
      simp at this
      omega
    have hall : (es.all fun e => decide (last ≤ e.born)) = es'.all (·.born ≥ last) := by
      rw [← Array.all_toList]
      exact MRel.all (fun e e' hh => by simp [hh]) _ _ hm
    have hcond : ¬ (!seen.toArray.isEmpty && !es'.isEmpty && es'.all (·.born ≥ last)) = true := by
      rw [← hall, ← hempty]
      simpa using hunsup
    have hleft := MRel.filter (α := α) (p := fun e => !seen.contains e.born) (p' := fun e => !seen.toArray.contains e.born) (fun e e' hh => by simp [hh]) _ _ hm
    have hold := MRel.filter (α := α) (p := fun e => decide (e.born < since)) (p' := fun e => decide (e.born < since)) (fun e e' hh => by simp [hh]) _ _ hleft
    have hnew := MRel.filter (α := α) (p := fun e => !decide (e.born < since)) (p' := fun e => decide (e.born ≥ since)) (fun e e' hh => by rw [hh, Bool.eq_iff_iff]; simp) _ _ hleft
    have a1 : (es'.filter fun e => !seen.toArray.contains e.born).toList = es'.toList.filter (fun e => !seen.toArray.contains e.born) := Array.toList_filter
    have a2 : ((es'.filter fun e => !seen.toArray.contains e.born).filter (·.born < since)).toList = (es'.toList.filter (fun e => !seen.toArray.contains e.born)).filter (fun e => decide (e.born < since)) := by
      rw [Array.toList_filter, a1]
    have a3 : ((es'.filter fun e => !seen.toArray.contains e.born).filter (·.born ≥ since)).toList = (es'.toList.filter (fun e => !seen.toArray.contains e.born)).filter (fun e => decide (e.born ≥ since)) := by
      rw [Array.toList_filter, a1]
    rw [← a2] at hold
    rw [← a3] at hnew
    simp only [] at hx
    have nilOf : ∀ A : Array MapEntry, MRel α [] A.toList → A = #[] := by
      intro A hA
      have := hA.1
      simp at this
      exact Array.eq_empty_of_size_eq_zero this.symm
    split at hx
    · rename_i e ho hn
      cases hx
      rw [ho] at hold
      rw [hn] at hnew
      have hN := nilOf _ hnew
      obtain ⟨e', r', hO, h1, h2, h3, h4⟩ := hold.cons_inv
      have hr' : r' = [] := by have := h4.1; cases r' <;> simp_all
      subst hr'
      have hO : ((es'.filter fun e => !seen.toArray.contains e.born).filter (·.born < since)) = #[e'] := by apply Array.ext'; exact hO
      refine ⟨_, .tuple #[.bool true, e'.key, e'.val], ?_, iter_write h hl hg rfl _ rfl (.mapIter (some lm.blk) since (seen.toArray.push e'.born) clock) ⟨h0, lm, hlm, by simp [hlt, h3]⟩,
        LRel.tuple (.cons (.bool _) (.cons h1 (.cons h2 (.nil _))))⟩
      simp only [Instr.next, h0, Nat.add_zero, Sem.run_bind, hget, Result.andThen, run_getObj hbm]
      rw [if_neg hcond]
      simp only [hO, hN]
      have hcand : ((if (#[e'] : Array MapEntry).isEmpty = true then #[none] else #[]) ++ Array.map some (#[e'] ++ #[]) : Array (Option MapEntry)) = #[some e'] := by simp
      rw [hcand, Sem.run_bind]
      have hch : (choose (.mapNext (#[some e'] : Array (Option MapEntry)).size)).run P w = .ok 0 w := rfl
      rw [hch]
      simp only [Result.andThen]
      have hget0 : (#[some e'] : Array (Option MapEntry))[0]? = some (some e') := rfl
      simp only [hget0, Sem.run_bind]
      have hset : (setObj l.blk (.mapIter (some lm.blk) since (seen.toArray.push e'.born) clock)).run P w = .ok () { w with heap := w.heap.setIfInBounds l.blk (.mapIter (some lm.blk) since (seen.toArray.push e'.born) clock) } := by
        simp [setObj, Sem.run, hb]
      rw [hset]
      rfl
    · rename_i ho hn
      cases hx
      rw [ho] at hold
      rw [hn] at hnew
      have hN := nilOf _ hnew
      have hO := nilOf _ hold
      refine ⟨w, .tuple #[.bool false], ?_, .refl h, LRel.tuple (.cons (.bool _) (.nil _))⟩
      simp only [Instr.next, h0, Nat.add_zero, Sem.run_bind, hget, Result.andThen, run_getObj hbm]
      rw [if_neg hcond]
      simp only [hO, hN]
      have hcand : ((if (#[] : Array MapEntry).isEmpty = true then #[none] else #[]) ++ Array.map some (#[] ++ #[]) : Array (Option MapEntry)) = #[none] := by simp
      rw [hcand, Sem.run_bind]
      have hch : (choose (.mapNext (#[none] : Array (Option MapEntry)).size)).run P w = .ok 0 w := rfl
      rw [hch]
      rfl
    · cases hx
  · cases hx

theorem iface_inv {t : TypeId} {v u : Value} (h : VRel α (.iface t v) u) : ∃ v', u = .iface t v' ∧ VRel α v v' := by
  cases h with
  | iface _ _ v' h => exact ⟨v', rfl, h⟩

theorem xassert_sound {x x' v : Value} {a xt : TypeId} {ok : Bool} (hx : xassert P x a ok = some v) (hr : VRel α x x') :
    ∃ v', (Instr.typeAssert x' xt a ok).run P w = .ok v' w ∧ VRel α v v' := by
  unfold xassert at hx
  split at hx
  · cases hx
  · rename_i d hne hu
    cases hr
    cases ok
    · simp at hx
    · simp only [if_true] at hx
      split at hx
      · rename_i z hz
        cases hx
        refine ⟨.tuple #[z, .bool false], ?_, pair_rel (zero_rel hz α) (.bool _)⟩
        unfold Instr.typeAssert
        simp only [Sem.run_bind, run_underlying hu, Result.andThen]
        cases d <;> first | (exact absurd hu (hne _)) | (simp only [if_true, Sem.run_bind, run_zero hz, Result.andThen, Sem.run_pure])
      · cases hx
  · rename_i d t v0 hne hu
    obtain ⟨v', rfl, hv⟩ := iface_inv hr
    split at hx
    · rename_i hta
      cases hx
      refine ⟨if ok then .tuple #[v', .bool true] else v', ?_, by cases ok <;> first | exact hv | exact pair_rel hv (.bool _)⟩
      unfold Instr.typeAssert
      simp only [Sem.run_bind, run_underlying hu, Result.andThen]
      cases d <;> first | (exact absurd hu (hne _)) | (simp only [if_pos hta, Sem.run_pure])
    · rename_i hta
      cases ok
      · simp at hx
      · simp only [if_true] at hx
        split at hx
        · rename_i z hz
          cases hx
          refine ⟨.tuple #[z, .bool false], ?_, pair_rel (zero_rel hz α) (.bool _)⟩
          unfold Instr.typeAssert
          simp only [Sem.run_bind, run_underlying hu, Result.andThen]
          cases d <;> first | (exact absurd hu (hne _)) | (simp only [if_neg hta, if_true, Sem.run_bind, run_zero hz, Result.andThen, Sem.run_pure])
        · cases hx
  · cases hx
end
end Go.Xe
