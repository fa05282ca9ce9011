/-
  The engine, part g: make, slice expressions, operators, conversions.
-/
import Derived.Test.YtkhjbbigangbdaaDoorM01
import Derived.Laws.StructEq
set_option linter.unusedSimpArgs false
set_option linter.unusedVariables false
namespace Go.Xe
open Go

section
variable {α : Place} {S : St} {w : World} {P : Program}

theorem bytesT_info {t : TypeId} {b : Nat} (h : bytesT P t = some b) : ∃ i, P.info? t = some i ∧ i.bytes = b := by
  unfold bytesT at h
  cases hi : P.info? t with
  | none => rw [hi] at h; cases h
  | some i => rw [hi] at h; exact ⟨i, rfl, by simpa using h⟩

theorem run_askRoom (n : Nat) (w : World) : (askRoom n).run P w = .ok () w := by
  unfold askRoom; split <;> rfl

theorem xmakeSlice_sound (h : Rel α S w) {t : TypeId} {l c v : Value} {S' : St} (hx : xmakeSlice P S t l c = some (v, S')) :
    ∃ β w' v', (Instr.makeSlice t l c).run P w = .ok v' w' ∧ Next α S w β S' w' ∧ VRel β v v' := by
  unfold xmakeSlice at hx
  split at hx
  · rename_i k len k' cap
    split at hx
    · rename_i elem hu
      split at hx
      · rename_i size bytes z hs hb hz
        split at hx
        · rename_i hc
          obtain ⟨hl, hcap, h0, hle, hbytes, hs0, hzs⟩ := hc
          split at hx
          · rename_i S1 hrow
            cases hx
            obtain ⟨i, hi, hib⟩ := bytesT_info hb
            have hzr : LRel α (zerosL z.cells.toList cap.toNat) (zerosL z.cells.toList cap.toNat) := zerosL_rel (zero_rel hz α).cells _
            obtain ⟨β, w', g1, g2, g3⟩ := h.newRow (P := P) hrow hzr elem
            refine ⟨β, w', .slice (some ⟨w.heap.size, 0, none⟩) len.toNat cap.toNat, ?_, g2, ?_⟩
            · simp only [Instr.makeSlice, asInt, asIntOf, Sem.run_bind, run_underlying hu, Result.andThen, Sem.run_pure, run_info hi, hl, hcap, hib]
              have hnl : ¬((decide (cap < 0) || decide ((bytes : Int) * cap > 2 ^ 48)) || decide (len < 0) || decide (len > cap)) = true := by
                simp; omega
              rw [if_neg hnl]
              simp only [Sem.run_bind, run_askRoom, Result.andThen, run_sizeOf hs]
              have e : ((Array.range (cap.toNat * size)).map fun i => z.cells[i % z.cells.size]!) = (zerosL z.cells.toList cap.toNat).toArray := by
                rw [← hzs]; exact zeros_eq _ _
              by_cases hn : cap.toNat * size = 0
              · have : cap.toNat = 0 := by
                  rcases Nat.mul_eq_zero.1 hn with e | e
                  · exact e
                  · omega
                rw [this] at g1 ⊢
                simp only [zerosL] at g1
                simp only [Nat.zero_mul, if_true, Array.range_zero', Array.map_empty]
                rw [Sem.run_bind, Sem.run_pure]
                simp only [Result.andThen]
                rw [Sem.run_bind, g1]
                rfl
              · rw [if_neg hn, Sem.run_bind, run_zero hz]
                simp only [Result.andThen]
                rw [Sem.run_bind, Sem.run_pure]
                simp only [Result.andThen, e]
                rw [Sem.run_bind, g1]
                rfl
            · have := VRel.slice (α := β) S.next 0 len.toNat cap.toNat cap.toNat _ g3 (by omega) (Nat.le_refl _) (by simp [length_zerosL, hzs])
              simpa using this
          · cases hx
        · cases hx
      · cases hx
    · cases hx
  · cases hx
/-- The bounds of a slice expression, in the model: what the abstract one says, but for the capacity. -/
theorem bounds_run {isSlice : Bool} {len cap cap' : Nat} {lo hi mx : Option Value} {l h m : Nat} (hb : xbounds len cap lo hi mx = some (l, h, m)) (hc : cap ≤ cap') (hl : len ≤ cap) (w : World) :
    ∃ m', (Instr.sliceBounds isSlice len cap' lo hi mx).run P w = .ok (l, h, m') w ∧ m ≤ m' ∧ m' ≤ cap' ∧ l ≤ h ∧ h ≤ m := by
  unfold xbounds at hb
  simp only at hb
  cases mx with
  | none =>
    simp only at hb
    cases hi with
    | none =>
      simp only at hb
      cases lo with
      | none =>
        simp only [Option.some.injEq, Prod.mk.injEq] at hb
        obtain ⟨rfl, rfl, rfl⟩ := hb
        exact ⟨cap', by simp [Instr.sliceBounds, Sem.run_pure], hc, Nat.le_refl _, Nat.zero_le _, hl⟩
      | some v =>
        cases v with
        | int k i =>
          simp only at hb
          split at hb
          · cases hb
          · rename_i l' hl'
            split at hl'
            · rename_i hcond
              cases hl'
              simp only [Option.some.injEq, Prod.mk.injEq] at hb
              obtain ⟨rfl, rfl, rfl⟩ := hb
              exact ⟨cap', by simp [Instr.sliceBounds, Instr.sliceBound, asIntOf, Sem.run_bind, Sem.run_pure, Result.andThen, hcond], hc, Nat.le_refl _, by omega, hl⟩
            · cases hl'
        | _ => simp at hb
    | some vh =>
      cases vh with
      | int kh ih =>
        simp only at hb
        split at hb
        · cases hb
        · rename_i h' hh'
          split at hh'
          · rename_i hch
            cases hh'
            have hch' : 0 ≤ ih ∧ ih ≤ (cap' : Int) := by omega
            cases lo with
            | none =>
              simp only [Option.some.injEq, Prod.mk.injEq] at hb
              obtain ⟨rfl, rfl, rfl⟩ := hb
              exact ⟨cap', by simp [Instr.sliceBounds, Instr.sliceBound, asIntOf, Sem.run_bind, Sem.run_pure, Result.andThen, hch'], hc, Nat.le_refl _, Nat.zero_le _, by omega⟩
            | some v =>
              cases v with
              | int k i =>
                simp only at hb
                split at hb
                · cases hb
                · rename_i l' hl'
                  split at hl'
                  · rename_i hcond
                    cases hl'
                    simp only [Option.some.injEq, Prod.mk.injEq] at hb
                    obtain ⟨rfl, rfl, rfl⟩ := hb
                    refine ⟨cap', ?_, hc, Nat.le_refl _, by omega, by omega⟩
                    simp [Instr.sliceBounds, Instr.sliceBound, asIntOf, Sem.run_bind, Sem.run_pure, Result.andThen, hch']
                    rw [if_pos (by omega)]
                  · cases hl'
              | _ => simp at hb
          · cases hh'
      | _ => simp at hb
  | some vm =>
    cases vm with
    | int km im =>
      simp only at hb
      split at hb
      · cases hb
      · rename_i m' hm'
        split at hm'
        · rename_i hcm
          cases hm'
          have hcm' : 0 ≤ im ∧ im ≤ (cap' : Int) := by omega
          cases hi with
          | none => simp at hb
          | some vh =>
            cases vh with
            | int kh ih =>
              simp only at hb
              split at hb
              · cases hb
              · rename_i h' hh'
                split at hh'
                · rename_i hch
                  cases hh'
                  cases lo with
                  | none =>
                    simp only [Option.some.injEq, Prod.mk.injEq] at hb
                    obtain ⟨rfl, rfl, rfl⟩ := hb
                    refine ⟨im.toNat, ?_, Nat.le_refl _, by omega, Nat.zero_le _, by omega⟩
                    have hch2 : 0 ≤ ih ∧ ih ≤ ((im.toNat : Nat) : Int) := hch
                    simp [Instr.sliceBounds, Instr.sliceBound, asIntOf, Sem.run_bind, Sem.run_pure, Result.andThen, hcm']
                    rw [if_pos (by omega)]
                  | some v =>
                    cases v with
                    | int k i =>
                      simp only at hb
                      split at hb
                      · cases hb
                      · rename_i l' hl'
                        split at hl'
                        · rename_i hcond
                          cases hl'
                          simp only [Option.some.injEq, Prod.mk.injEq] at hb
                          obtain ⟨rfl, rfl, rfl⟩ := hb
                          refine ⟨im.toNat, ?_, Nat.le_refl _, by omega, by omega, by omega⟩
                          simp [Instr.sliceBounds, Instr.sliceBound, asIntOf, Sem.run_bind, Sem.run_pure, Result.andThen, hcm']
                          rw [if_pos (by omega)]
                          simp [Sem.run_pure]
                          rw [if_pos (by omega)]
                        · cases hl'
                    | _ => simp at hb
                · cases hh'
            | _ => simp at hb
        · cases hm'
    | _ => simp at hb

/-- What a piece of a slice stands for. -/
theorem piece_rel {b o s l h m m' len' : Nat} {loc : Loc} (hb : α b = some loc) (he : loc.esz = s) (hlh : l ≤ h) (hhm : h ≤ m) (hmm : m ≤ m') (hr : o + m' * s ≤ loc.room) :
    VRel α (.slice (some ⟨b, o + l * s, none⟩) (h - l) (m - l)) (.slice (some (if m' = l then ⟨loc.blk, loc.off + o, none⟩ else (⟨loc.blk, loc.off + o, none⟩ : Addr).add (l * s))) (h - l) (m' - l)) := by
  by_cases e : m' = l
  · subst e
    have h1 : h - m' = 0 := by omega
    have h2 : m - m' = 0 := by omega
    rw [h1, h2, Nat.sub_self]
    exact .sliceEnd _ _
  · rw [if_neg e, add_eq, Nat.add_assoc]
    refine .slice b (o + l * s) (h - l) (m - l) (m' - l) loc hb (by omega) (by omega) ?_
    rw [he, Nat.add_assoc, ← Nat.add_mul]
    rw [show l + (m' - l) = m' by omega]
    exact hr

theorem nil_slice_inv {n c : Nat} {v : Value} (h : VRel α (.slice none n c) v) : n = 0 ∧ c = 0 ∧ v = .slice none 0 0 := by
  cases h; exact ⟨rfl, rfl, rfl⟩

theorem string_take_drop (s : ByteArray) (l h : Nat) : s.extract l h = ⟨((s.data.toList.take h).drop l).toArray⟩ := by
  apply ByteArray.ext
  apply Array.ext'
  rw [ByteArray.data_extract, Array.toList_extract, List.drop_take]

theorem xslice_sound (h : Rel α S w) {t : TypeId} {x x' v : Value} {lo hi mx : Option Value} (hx : xslice P S t x lo hi mx = some v) (ha : VRel α x x') :
    ∃ v', (Instr.sliceAt t x' lo hi mx).run P w = .ok v' w ∧ VRel α v v' := by
  unfold xslice at hx
  split at hx
  · rename_i s hu
    cases ha
    split at hx
    · cases hx
    · rename_i hmx
      split at hx
      · rename_i l hh m hb
        cases hx
        obtain ⟨m', hrun, _, _, hlh, _⟩ := bounds_run (P := P) (isSlice := false) hb (Nat.le_refl _) (Nat.le_refl _) w
        have hsz : s.data.toList.length = s.size := by simp
        rw [hsz] at hrun
        have hmn : mx = none := by cases mx <;> simp_all
        subst hmn
        refine ⟨.string (s.extract l hh), ?_, by rw [string_take_drop]; exact .string _⟩
        simp only [Instr.sliceAt, Instr.slice, Sem.run_bind, run_underlying hu, Result.andThen, Option.isSome_none, Bool.false_eq_true, if_false, hrun, Sem.run_pure]
      · cases hx
  · rename_i e hu
    obtain ⟨_, _, rfl⟩ := nil_slice_inv ha
    split at hx
    · rename_i p s hb hs
      cases hx
      obtain ⟨l, hh, m⟩ := p
      obtain ⟨m', hrun, h1, h2, h3, h4⟩ := bounds_run (P := P) (isSlice := true) hb (Nat.le_refl _) (Nat.le_refl _) w
      have : m' = 0 := by omega
      have : l = 0 := by omega
      have : hh = 0 := by omega
      subst_vars
      refine ⟨.slice none 0 0, ?_, .sliceNil⟩
      simp only [Instr.sliceAt, Instr.slice, Sem.run_bind, run_underlying hu, Result.andThen, hrun, run_sizeOf hs, Sem.run_pure]
      simp
    · cases hx
  · rename_i elem b o len cap hu
    split at hx
    · rename_i l hh m s cs esz ro hb hs hg
      split at hx
      · rename_i hc
        obtain ⟨rfl, hs0⟩ := hc
        cases hx
        obtain ⟨loc, hloc, hent⟩ := h.ent _ _ hg
        obtain ⟨hesz, _⟩ := hent
        rcases slice_inv ha with ⟨l', cap', hl, h1, h2, h3, rfl⟩ | ⟨a', rfl, rfl, rfl⟩
        · rw [hloc] at hl; cases hl
          obtain ⟨m', hrun, g1, g2, g3, g4⟩ := bounds_run (P := P) (isSlice := true) hb h2 h1 w
          refine ⟨_, ?_, piece_rel (len' := len) hloc hesz.symm g3 g4 g1 ?_⟩
          · simp only [Instr.sliceAt, Instr.slice, Sem.run_bind, run_underlying hu, Result.andThen, hrun, run_sizeOf hs, Sem.run_pure]
            split <;> simp
          · rw [hesz]
            have : m' * loc.esz ≤ cap' * loc.esz := Nat.mul_le_mul_right _ g2
            omega
        · obtain ⟨m', hrun, g1, g2, g3, g4⟩ := bounds_run (P := P) (isSlice := true) hb (Nat.le_refl _) (Nat.le_refl _) w
          have e1 : m' = 0 := by omega
          have e2 : l = 0 := by omega
          have e3 : hh = 0 := by omega
          have e4 : m = 0 := by omega
          subst e1; subst e2; subst e3; subst e4
          refine ⟨.slice (some a') 0 0, ?_, .sliceEnd _ _⟩
          simp only [Instr.sliceAt, Instr.slice, Sem.run_bind, run_underlying hu, Result.andThen, hrun, run_sizeOf hs, Sem.run_pure]
          simp
      · cases hx
    · cases hx
  · rename_i n elem b o hu
    obtain ⟨loc', hl, rfl⟩ := ptr_inv ha
    split at hx
    · rename_i l hh m s cs esz ro hb hs hg
      split at hx
      · rename_i hc
        obtain ⟨rfl, hs0, hroom⟩ := hc
        cases hx
        obtain ⟨loc, hloc, hent⟩ := h.ent _ _ hg
        obtain ⟨hesz, _, _, _, _, _, hcl, _⟩ := hent
        have e : loc = loc' := by rw [hloc] at hl; exact Option.some.inj hl
        subst e
        obtain ⟨m', hrun, g1, g2, g3, g4⟩ := bounds_run (P := P) (isSlice := false) hb (Nat.le_refl _) (Nat.le_refl _) w
        refine ⟨_, ?_, piece_rel (len' := n) hloc hesz.symm g3 g4 g1 ?_⟩
        · simp only [Instr.sliceAt, Instr.sureAddr, Sem.run_bind, run_underlying hu, Result.andThen, hrun, run_sizeOf hs, Sem.run_pure]
        · rw [hesz] at hroom ⊢
          have : m' * loc.esz ≤ n * loc.esz := Nat.mul_le_mul_right _ g2
          omega
      · cases hx
    · cases hx
  · rename_i arr b o hu
    split at hx
    · rename_i n elem hu2
      obtain ⟨loc', hl, rfl⟩ := ptr_inv ha
      split at hx
      · rename_i l hh m s cs esz ro hb hs hg
        split at hx
        · rename_i hc
          obtain ⟨rfl, hs0, hroom⟩ := hc
          cases hx
          obtain ⟨loc, hloc, hent⟩ := h.ent _ _ hg
          obtain ⟨hesz, _, _, _, _, _, hcl, _⟩ := hent
          have e : loc = loc' := by rw [hloc] at hl; exact Option.some.inj hl
          subst e
          obtain ⟨m', hrun, g1, g2, g3, g4⟩ := bounds_run (P := P) (isSlice := false) hb (Nat.le_refl _) (Nat.le_refl _) w
          refine ⟨_, ?_, piece_rel (len' := n) hloc hesz.symm g3 g4 g1 ?_⟩
          · simp only [Instr.sliceAt, Instr.slice, asAddr, Sem.run_bind, run_underlying hu, run_underlying hu2, Result.andThen, hrun, run_sizeOf hs, Sem.run_pure]
          · rw [hesz] at hroom ⊢
            have : m' * loc.esz ≤ n * loc.esz := Nat.mul_le_mul_right _ g2
            omega
        · cases hx
      · cases hx
    · cases hx
  · cases hx
end
end Go.Xe
/-
  The engine, part h: operators, comparisons, conversions.
-/
set_option linter.unusedSimpArgs false
set_option linter.unusedVariables false
namespace Go.Xe
open Go

section
variable {α : Place} {S : St} {w : World} {P : Program}

theorem beqBytes_eq : ∀ a b : List UInt8, beqBytes a b = (a == b)
  | [], [] => rfl
  | [], b :: y => rfl
  | a :: x, [] => rfl
  | a :: x, b :: y => by
    simp only [beqBytes, beqBytes_eq x y]
    rw [Bool.eq_iff_iff]
    simp [UInt8.toNat_inj]

theorem lessL_eq : ∀ a b : List UInt8, lessL a b = Op.bytesLess a b
  | [], [] => rfl
  | [], b :: y => rfl
  | a :: x, [] => rfl
  | a :: x, b :: y => by
    simp only [lessL, Op.bytesLess, lessL_eq x y]
    rw [Bool.eq_iff_iff]
    simp [UInt8.lt_iff_toNat_lt, UInt8.toNat_inj]

theorem part_fields {d : Nat} {D : Nat} (ih : ∀ t x y b x' y', xeq P d t x y = some b → VRel α x x' → VRel α y y' → ∀ w, (Op.equalIn D t x' y').run P w = .ok b w) :
    ∀ (fs : List Field) (xs ys : Array Value) (xs' ys' : Array Value) (b : Bool), LRel α xs.toList xs'.toList → LRel α ys.toList ys'.toList →
      xeqF P (xeq P d) fs xs.toList ys.toList = some b → ∀ w, (Op.eqFields D xs' ys' fs).run P w = .ok b w
  | [], xs, ys, xs', ys', b, _, _, h, w => by simp only [xeqF] at h; cases h; rfl
  | f :: r, xs, ys, xs', ys', b, hx, hy, h, w => by
    simp only [xeqF] at h
    simp only [Op.eqFields]
    split at h
    · rename_i hn
      rw [if_neg (by simpa using hn)]
      exact part_fields ih r xs ys xs' ys' b hx hy h w
    · rename_i hn
      rw [if_pos hn]
      split at h
      · rename_i a c ha hc
        obtain ⟨a', h1, h2⟩ := xpart_sound (w := w) ha hx
        obtain ⟨c', h3, h4⟩ := xpart_sound (w := w) hc hy
        split at h
        · rename_i he
          simp only [Sem.run_bind, h1, Result.andThen, h3, ih _ _ _ _ _ _ he h2 h4 w, Bool.not_true, Bool.false_eq_true, if_false]
          exact part_fields ih r xs ys xs' ys' b hx hy h w
        · rename_i he
          cases h
          simp only [Sem.run_bind, h1, Result.andThen, h3, ih _ _ _ _ _ _ he h2 h4 w, Bool.not_false, if_true]
          rfl
        · cases h
      · cases h

theorem isNone_of_rel_ptr {b : Option Addr} {v : Value} (h : VRel α (.pointer b) v) : ∃ b', v = .pointer b' ∧ b'.isNone = b.isNone := by
  cases h with
  | ptrNil => exact ⟨none, rfl, rfl⟩
  | ptr i o l h => exact ⟨_, rfl, rfl⟩
theorem isNone_of_rel_slice {b : Option Addr} {n c : Nat} {v : Value} (h : VRel α (.slice b n c) v) : ∃ b' n' c', v = .slice b' n' c' ∧ b'.isNone = b.isNone ∧ n' = n := by
  cases h with
  | sliceNil => exact ⟨none, 0, 0, rfl, rfl, rfl⟩
  | slice => exact ⟨_, _, _, rfl, rfl, rfl⟩
  | sliceEnd => exact ⟨_, _, _, rfl, rfl, rfl⟩
theorem isNone_of_rel_map {b : Option Nat} {v : Value} (h : VRel α (.map b) v) : ∃ b', v = .map b' ∧ b'.isNone = b.isNone := by
  cases h with
  | mapNil => exact ⟨none, rfl, rfl⟩
  | map i l h => exact ⟨_, rfl, rfl⟩

theorem xeq_sound : ∀ (d : Nat) (D : Nat), d ≤ D → ∀ (t : TypeId) (x y : Value) (b : Bool) (x' y' : Value), xeq P d t x y = some b → VRel α x x' → VRel α y y' →
    ∀ w, (Op.equalIn D t x' y').run P w = .ok b w
  | 0, _, _, t, x, y, b, x', y', h, _, _, _ => by simp only [xeq] at h; cases h
  | d + 1, 0, hD, _, _, _, _, _, _, _, _, _, _ => by omega
  | d + 1, D + 1, hD, t, x, y, b, x', y', h, hx, hy, w => by
    have ih := xeq_sound d D (by omega)
    unfold xeq at h
    split at h
    · rename_i a c hu; cases h; cases hx; cases hy
      simp [Op.equalIn, run_underlying hu]
    · rename_i k0 k a k' c hu
      split at h
      · rename_i hk; cases h; cases hx; cases hy
        subst hk
        simp [Op.equalIn, run_underlying hu]
        rfl
      · cases h
    · rename_i a c hu; cases h; cases hx; cases hy
      rw [beqBytes_eq]
      simp only [Op.equalIn, Sem.run_bind, run_underlying hu, Result.andThen, Sem.run_pure]
      rw [beq_toListBytes, ByteArray.toList_eq, ByteArray.toList_eq]
    · rename_i e c hu; cases h; cases hx
      obtain ⟨b', rfl, hb⟩ := isNone_of_rel_ptr hy
      simp only [Op.equalIn, Sem.run_bind, run_underlying hu, Result.andThen, Sem.run_pure, hb]
    · rename_i e c hu; cases h; cases hy
      cases hx
      simp only [Op.equalIn, Sem.run_bind, run_underlying hu, Result.andThen, Sem.run_pure]
    · rename_i e i o j q hu
      split at h
      · cases h
      · rename_i n hn hs
        split at h
        · rename_i hij
          cases h
          subst hij
          obtain ⟨l, hl, rfl⟩ := ptr_inv hx
          obtain ⟨l', hl', rfl⟩ := ptr_inv hy
          rw [hl] at hl'; cases hl'
          simp only [Op.equalIn, Sem.run_bind, run_underlying hu, Result.andThen, run_sizeOf hs]
          rw [if_pos (by simpa using fun e => hn (by rw [e]))]
          simp only [sameAddr, beq_self_eq_true, if_true, Sem.run_pure]
          congr 1
          rw [Bool.eq_iff_iff]
          simp
        · cases h
      · cases h
    · rename_i hu; cases h; cases hx; cases hy
      simp only [Op.equalIn, Sem.run_bind, run_underlying hu, Result.andThen, Sem.run_pure]
    · rename_i hu; cases h; cases hx; cases hy
      simp only [Op.equalIn, Sem.run_bind, run_underlying hu, Result.andThen, Sem.run_pure]
    · rename_i hu; cases h; cases hx; cases hy
      simp only [Op.equalIn, Sem.run_bind, run_underlying hu, Result.andThen, Sem.run_pure]
    · rename_i m tx vx ty vy hu
      cases hx with
      | iface _ _ vx' hvx => cases hy with
        | iface _ _ vy' hvy =>
          split at h
          · rename_i hne
            cases h
            simp only [Op.equalIn, Sem.run_bind, run_underlying hu, Result.andThen]
            rw [if_pos hne]
            rfl
          · rename_i hne
            simp only [ne_eq, Decidable.not_not] at hne
            subst hne
            split at h
            · rename_i i hi
              split at h
              · rename_i hc
                have := ih _ _ _ _ _ _ h hvx hvy w
                simp only [Op.equalIn, Sem.run_bind, run_underlying hu, Result.andThen]
                rw [if_neg (by simp)]
                simp only [Sem.run_bind, run_info hi, Result.andThen, hc, Bool.not_true, Bool.false_eq_true, if_false]
                exact this
              · cases h
            · cases h
    · rename_i fields xs ys hu
      split at h
      · cases h
      · rename_i hst
        obtain ⟨xs', rfl, hrx⟩ := agg_inv hx
        obtain ⟨ys', rfl, hry⟩ := agg_inv hy
        have hf : P.fieldsOf t = fields := by simp [Program.fieldsOf, hu]
        rw [run_equalIn_struct w D t xs' ys' (by rw [hf]; exact hu) (by simpa using hst), hf]
        exact part_fields ih _ _ _ _ _ _ hrx hry h w
    · rename_i e n c a n' c' hu; cases h
      obtain ⟨_, _, rfl⟩ := nil_slice_inv hx
      obtain ⟨b', n2, c2, rfl, hb, _⟩ := isNone_of_rel_slice hy
      simp only [Op.equalIn, Sem.run_bind, run_underlying hu, Result.andThen, Sem.run_pure, hb]
    · rename_i e a n c n' c' hu; cases h
      obtain ⟨_, _, rfl⟩ := nil_slice_inv hy
      obtain ⟨b', n2, c2, rfl, hb, _⟩ := isNone_of_rel_slice hx
      cases b' with
      | none => simp at hb
      | some a => simp only [Op.equalIn, Sem.run_bind, run_underlying hu, Result.andThen, Sem.run_pure]
    · rename_i k e c hu; cases h; cases hx
      obtain ⟨b', rfl, hb⟩ := isNone_of_rel_map hy
      simp only [Op.equalIn, Sem.run_bind, run_underlying hu, Result.andThen, Sem.run_pure, hb]
    · rename_i k e a hu; cases h; cases hy; cases hx
      simp only [Op.equalIn, Sem.run_bind, run_underlying hu, Result.andThen, Sem.run_pure]
    · rename_i hu; cases h; cases hx; cases hy
      simp only [Op.equalIn, Sem.run_bind, run_underlying hu, Result.andThen, Sem.run_pure]
    · rename_i hu; cases h; cases hx; cases hy
      simp only [Op.equalIn, Sem.run_bind, run_underlying hu, Result.andThen, Sem.run_pure]
    · rename_i hu; cases h; cases hx; cases hy
      simp only [Op.equalIn, Sem.run_bind, run_underlying hu, Result.andThen, Sem.run_pure]
    · cases h

theorem xint_sound {op : BinOp} {k : IntKind} {a b : Int} {v : Value} (t : TypeId) (hx : xint op k a b = some v) (hsh : op ≠ .shl) (hsr : op ≠ .shr) :
    (binOp op t (.int k a) (.int k b)).run P w = .ok v w ∧ VRel α v v := by
  cases op <;> simp only [xint] at hx
  case add => cases hx; exact ⟨by simp [binOp, Op.intArith, Sem.run_pure], .int _ _⟩
  case sub => cases hx; exact ⟨by simp [binOp, Op.intArith, Sem.run_pure], .int _ _⟩
  case mul => cases hx; exact ⟨by simp [binOp, Op.intArith, Sem.run_pure], .int _ _⟩
  case quo =>
    split at hx
    · cases hx
    · rename_i h; cases hx; exact ⟨by simp [binOp, Op.intDiv, h, Sem.run_pure], .int _ _⟩
  case rem =>
    split at hx
    · cases hx
    · rename_i h; cases hx; exact ⟨by simp [binOp, Op.intDiv, h, Sem.run_pure], .int _ _⟩
  case and => cases hx; exact ⟨by simp [binOp, Op.intBits, Sem.run_pure], .int _ _⟩
  case or => cases hx; exact ⟨by simp [binOp, Op.intBits, Sem.run_pure], .int _ _⟩
  case xor => cases hx; exact ⟨by simp [binOp, Op.intBits, Sem.run_pure], .int _ _⟩
  case andNot => cases hx; exact ⟨by simp [binOp, Op.intBits, Sem.run_pure], .int _ _⟩
  case eql => cases hx; exact ⟨by simp [binOp, Op.intCmp, Sem.run_pure]; rfl, .bool _⟩
  case neq =>
    cases hx
    exact ⟨by simp [binOp, Op.intCmp, Sem.run_pure, bne]; rfl, .bool _⟩
  case lss => cases hx; exact ⟨by simp [binOp, Op.intCmp, Sem.run_pure], .bool _⟩
  case leq => cases hx; exact ⟨by simp [binOp, Op.intCmp, Sem.run_pure], .bool _⟩
  case gtr => cases hx; exact ⟨by simp [binOp, Op.intCmp, Sem.run_pure], .bool _⟩
  case geq => cases hx; exact ⟨by simp [binOp, Op.intCmp, Sem.run_pure], .bool _⟩
  all_goals first | cases hx | exact absurd rfl hsh | exact absurd rfl hsr

theorem xshift_sound {op : BinOp} {k k' : IntKind} {a b : Int} {v : Value} (t : TypeId) (hx : xshift op k a b = some v) (ho : op = .shl ∨ op = .shr) :
    (binOp op t (.int k a) (.int k' b)).run P w = .ok v w ∧ VRel α v v := by
  unfold xshift at hx
  split at hx
  · cases hx
  · rename_i hb
    rcases ho with rfl | rfl
    · simp only at hx; cases hx
      exact ⟨by simp [binOp, Op.shift, hb, Sem.run_pure], .int _ _⟩
    · simp only at hx; cases hx
      exact ⟨by simp [binOp, Op.shift, hb, Sem.run_pure], .int _ _⟩

theorem append_bytes (x y : ByteArray) : x ++ y = ⟨(x.data.toList ++ y.data.toList).toArray⟩ := by
  apply ByteArray.ext
  apply Array.ext'
  simp [ByteArray.data_append]

theorem xstr_sound {op : BinOp} {a b : ByteArray} {v : Value} (t : TypeId) (hx : xstr op a b = some v) :
    (binOp op t (.string a) (.string b)).run P w = .ok v w ∧ VRel α v v := by
  unfold xstr at hx
  have e : binOp op t (.string a) (.string b) = Op.stringOp op a b := by cases op <;> simp [binOp]
  rw [e]
  cases op <;> simp only at hx <;> try (cases hx; done)
  case add =>
    split at hx
    · rename_i h
      cases hx
      refine ⟨?_, .string _⟩
      simp only [Op.stringOp]
      have ha : a.data.toList.length = a.size := by simp
      have hb : b.data.toList.length = b.size := by simp
      rw [ha, hb] at h
      rw [if_neg (by simp [IntKind.max, IntKind.signed, IntKind.bits]; omega), append_bytes]
      rfl
    · cases hx
  all_goals (cases hx; refine ⟨?_, .bool _⟩; simp only [Op.stringOp, ByteArray.toList_eq, beqBytes_eq, lessL_eq]; rfl)

theorem xbin_sound {op : BinOp} {t : TypeId} {xo yo : Operand} {x x' y y' v : Value} (hx : xbin P op t (isConst xo || isConst yo) x y = some v) (hrx : VRel α x x') (hry : VRel α y y') :
    ∃ v', (do eqGuard op t xo yo x' y'; binOp op t x' y' : Sem Value).run P w = .ok v' w ∧ VRel α v v' := by
  unfold xbin at hx
  have pass : ∀ (v' : Value), (eqGuard op t xo yo x' y').run P w = .ok () w → (binOp op t x' y').run P w = .ok v' w →
      (do eqGuard op t xo yo x' y'; binOp op t x' y' : Sem Value).run P w = .ok v' w := by
    intro v' h1 h2
    rw [Sem.run_bind, h1]
    exact h2
  have guard : eqOk P t (isConst xo || isConst yo) x y = true → (eqGuard op t xo yo x' y').run P w = .ok () w := by
    intro h
    by_cases hop : op = .eql ∨ op = .neq
    · cases hrx <;> cases hry <;> try (rcases hop with rfl | rfl <;> rfl)
      · simp only [eqOk, Bool.or_eq_true] at h
        rcases hop with rfl | rfl <;> cases xo <;> cases yo <;> first | rfl | (simp [isConst] at h)
      · simp only [eqOk, Bool.not_eq_true'] at h
        rcases hop with rfl | rfl <;> simp [eqGuard, Sem.run_bind, run_program, h, Result.andThen, Sem.run_pure]
    · cases op <;> first | rfl | (exact absurd (.inl rfl) hop) | (exact absurd (.inr rfl) hop)
  split at hx
  · cases hrx; cases hry
    obtain ⟨h1, h2⟩ := xshift_sound (P := P) (w := w) (α := α) (k' := _) t hx (.inl rfl)
    exact ⟨v, pass v rfl h1, h2⟩
  · cases hrx; cases hry
    obtain ⟨h1, h2⟩ := xshift_sound (P := P) (w := w) (α := α) (k' := _) t hx (.inr rfl)
    exact ⟨v, pass v rfl h1, h2⟩
  · rename_i k a k' b h1 h2
    cases hrx; cases hry
    split at hx
    · rename_i hk
      subst hk
      obtain ⟨g1, g2⟩ := xint_sound (P := P) (w := w) (α := α) t hx (fun e => h1 e) (fun e => h2 e)
      exact ⟨v, pass v (by cases op <;> rfl) g1, g2⟩
    · cases hx
  · cases hx
  · cases hx
  · cases hrx; cases hry
    obtain ⟨g1, g2⟩ := xstr_sound (P := P) (w := w) (α := α) t hx
    exact ⟨v, pass v (by cases op <;> rfl) g1, g2⟩
  · rename_i hn1 hn2 hn3 hn4 hn5
    split at hx
    · rename_i hg
      split at hx
      · rename_i b hb
        cases hx
        have he := xeq_sound (P := P) (α := α) 12 Op.maxDepth (by decide) _ _ _ _ _ _ hb hrx hry w
        refine ⟨.bool b, pass _ (guard hg) ?_, .bool _⟩
        have e : binOp .eql t x' y' = (do pure (.bool (← Op.equal t x' y')) : Sem Value) := by
          cases hrx <;> cases hry <;> first | rfl | exact (hn4 _ _ _ _ rfl rfl).elim | exact (hn5 _ _ rfl rfl).elim | exact (hn2 _ _ rfl).elim | exact (hn3 _ _ _ rfl).elim
        rw [e, Sem.run_bind]
        unfold Op.equal
        rw [he]
        rfl
      · cases hx
    · cases hx
  · rename_i hn1 hn2 hn3 hn4 hn5
    split at hx
    · rename_i hg
      split at hx
      · rename_i b hb
        cases hx
        have he := xeq_sound (P := P) (α := α) 12 Op.maxDepth (by decide) _ _ _ _ _ _ hb hrx hry w
        refine ⟨.bool (!b), pass _ (guard hg) ?_, .bool _⟩
        have e : binOp .neq t x' y' = (do pure (.bool (!(← Op.equal t x' y'))) : Sem Value) := by
          cases hrx <;> cases hry <;> first | rfl | exact (hn4 _ _ _ _ rfl rfl).elim | exact (hn5 _ _ rfl rfl).elim | exact (hn2 _ _ rfl).elim | exact (hn3 _ _ _ rfl).elim
        rw [e, Sem.run_bind]
        unfold Op.equal
        rw [he]
        rfl
      · cases hx
    · cases hx
  · cases hx

theorem xun_sound {op : UnOp} {x x' v : Value} (hx : xun op x = some v) (hr : VRel α x x') : ∃ v', (Op.unary op x').run P w = .ok v' w ∧ VRel α v v' := by
  unfold xun at hx
  split at hx
  · cases hx; cases hr; exact ⟨_, rfl, .int _ _⟩
  · rename_i k n
    cases hr
    simp only [xint] at hx; cases hx
    exact ⟨_, rfl, .int _ _⟩
  · cases hx; cases hr; exact ⟨_, rfl, .bool _⟩
  · cases hx
end
end Go.Xe
/-
  The engine, part i: conversions, append, copy, len, min, max, clear.
-/
set_option linter.unusedSimpArgs false
set_option linter.unusedVariables false
namespace Go.Xe
open Go

section
variable {α : Place} {S : St} {w : World} {P : Program}

theorem run_choose_cap (need old : Nat) (e : TypeId) (w : World) :
    ∃ c, need ≤ c ∧ (choose (.appendCap need old e)).run P w = .ok c { w with drawn := w.drawn + 1 } := by
  refine ⟨(Question.appendCap need old e).cut (w.tape w.drawn (.appendCap need old e)), ?_, ?_⟩
  · simp [Question.cut]
  · simp [choose, Sem.run, Question.forced]

theorem byteVals_rel (l : List UInt8) : LRel α (byteVals l) (byteVals l) :=
  plain1_list α (by
    rw [List.all_eq_true]
    intro v hv
    simp only [byteVals, List.mem_map] at hv
    obtain ⟨b, _, rfl⟩ := hv
    rfl)

theorem valBytes_some : ∀ (l : List Value) (bs : List UInt8), valBytes l = some bs → ∃ ns : List Int, l = ns.map (Value.int .u8) ∧ bs = ns.map fun n => UInt8.ofNat n.toNat
  | [], bs, h => by simp only [valBytes] at h; cases h; exact ⟨[], rfl, rfl⟩
  | v :: r, bs, h => by
    unfold valBytes at h
    split at h
    · rename_i heq; cases heq
    · rename_i n r' heq
      injection heq with h1 h2
      subst h1; subst h2
      split at h
      · rename_i l hl
        cases h
        obtain ⟨ns, e1, e2⟩ := valBytes_some _ _ hl
        exact ⟨n :: ns, by rw [e1]; rfl, by rw [e2]; rfl⟩
      · cases h
    · cases h

theorem ints_rel {ns : List Int} {l : List Value} (h : LRel α (ns.map (Value.int .u8)) l) : l = ns.map (Value.int .u8) := by
  apply List.ext_getElem?
  intro i
  by_cases hi : i < ns.length
  · have h1 : (ns.map (Value.int .u8))[i]? = some (.int .u8 ns[i]) := by simp [hi]
    obtain ⟨v', e1, e2⟩ := h.get h1
    cases e2
    rw [e1, h1]
  · rw [List.getElem?_eq_none (by have := h.1; simp at this; omega), List.getElem?_eq_none (by simpa using hi)]

theorem foldl_push (ns : List Int) : ∀ (s : ByteArray), ns.foldl (fun r n => r.push (UInt8.ofNat n.toNat)) s = s ++ ⟨(ns.map fun n => UInt8.ofNat n.toNat).toArray⟩ := by
  induction ns with
  | nil => intro s; apply ByteArray.ext; simp [ByteArray.data_append]
  | cons n ns ih =>
    intro s
    rw [List.foldl_cons, ih]
    apply ByteArray.ext
    apply Array.ext'
    simp [ByteArray.data_append, ByteArray.data_push]

theorem freeze_heap (w : World) (b n : Nat) : (w.freeze ⟨b, n, none⟩ 1).heap.size = w.heap.size ∧ (∀ k, k ≠ b → (w.freeze ⟨b, n, none⟩ 1).heap[k]? = w.heap[k]?) ∧
    ∀ c t fr, w.heap[b]? = some (.cells c t fr) → ∃ fr' : Nat × Nat, (w.freeze ⟨b, n, none⟩ 1).heap[b]? = some (.cells c t fr') ∧ (Free c.size fr → n = c.size → Free c.size fr') := by
  refine ⟨by simp [World.freeze], fun k hk => ?_, fun c t fr hb => ?_⟩
  · simp only [World.freeze, Nat.one_ne_zero, if_false]
    rw [Array.getElem?_modify, if_neg (Ne.symm hk)]
  · obtain ⟨lo, hi⟩ := fr
    refine ⟨if lo == hi then (n, n + 1) else (min lo n, max hi (n + 1)), ?_, ?_⟩
    · simp only [World.freeze, Nat.one_ne_zero, if_false]
      rw [Array.getElem?_modify]
      simp [hb]
    · rintro ⟨h1, h2⟩ rfl
      by_cases he : lo = hi
      · subst he
        simp only [beq_self_eq_true, if_true]
        exact ⟨fun o ho => by simp only; omega, by simp⟩
      · have : (lo == hi) = false := by simpa using he
        rw [this]
        simp only [Bool.false_eq_true, if_false]
        simp only at h1 h2
        have hlo : c.size ≤ lo := by
          rcases Nat.lt_or_ge lo c.size with h | h
          · exact absurd ⟨Nat.le_refl _, by omega⟩ (h1 lo h)
          · exact h
        refine ⟨fun o ho => ?_, ?_⟩
        · simp only; omega
        · simp only; omega

theorem xstringish {t : TypeId} {e : TypeId} {b o len cap : Nat} {cs : List Value} {esz : Nat} {x' : Value} (hd : P.underlying t = some (.slice e)) (he : P.underlying e = some (.int .u8))
    (hg : S.heap.get b = some (.row cs esz false)) (h : Rel α S w) (hr : VRel α (.slice (some ⟨b, o, none⟩) len cap) x') (hcap : 0 < cap) :
    ∃ β w' v', (convert t t x').run P w = .ok v' w' ∧ Next α S w β S w' ∧ VRel β (.slice (some ⟨b, o, none⟩) len cap) v' := by
  have conv : ∀ (a : Addr) (n m : Nat), (convert t t (.slice (some a) n m)).run P w = .ok (.slice (some a) n m) (match w.shape? a.block with | some (_, k) => w.freeze ⟨a.block, k, none⟩ 1 | none => w) := by
    intro a n m
    simp only [convert, Sem.run_bind, run_underlying hd, Result.andThen, run_underlying he, beq_self_eq_true]
    have hm : (markStringish a).run P w = .ok () (match w.shape? a.block with | some (_, k) => w.freeze ⟨a.block, k, none⟩ 1 | none => w) := by
      simp only [markStringish, Sem.run_bind, shape, Sem.run, Result.andThen]
      cases w.shape? a.block with
      | none => rfl
      | some p => rfl
    simp only [hm]
    rfl
  rcases slice_inv hr with ⟨l, cap', hl, h1, h2, h3, rfl⟩ | ⟨a', rfl, rfl, rfl⟩
  · obtain ⟨l', hl', hent⟩ := h.ent b _ hg
    rw [hl] at hl'; cases hl'
    obtain ⟨q0, c, ty, fr, q1, q2, q3, q4, q5⟩ := hent
    have hsh : w.shape? l.blk = some (ty, c.size) := by simp [World.shape?, q1]
    have hc := conv ⟨l.blk, l.off + o, none⟩ len cap'
    simp only [hsh] at hc
    obtain ⟨f1, f2, f3⟩ := freeze_heap w l.blk c.size
    obtain ⟨fr', g1, g2⟩ := f3 c ty fr q1
    refine ⟨α, _, _, hc, Next.same (Next.write (e := .row cs esz false) h hg rfl hl rfl f2 f1 ⟨?_, ?_, ?_⟩ ⟨q0, c, ty, fr', g1, q2, q3, fun _ => g2 (q4 rfl) rfl, q5⟩) (fun i e hi => ?_) rfl rfl, .slice b o len cap cap' l hl h1 h2 h3⟩
    · simp [World.freeze]
    · simp [World.freeze]
    · simp [World.freeze]
    · simp only [St.put]
      rw [PT.get_set]
      by_cases hib : i = b
      · subst hib; rw [if_pos rfl]; rw [hg] at hi; exact hi
      · rw [if_neg hib]; exact hi
  · exact absurd hcap (Nat.lt_irrefl _)

theorem xconvert_sound (h : Rel α S w) {src dst : TypeId} {x x' v : Value} {S' : St} (hx : xconvert P S src dst x = some (v, S')) (hr : VRel α x x') :
    ∃ β w' v', (convert src dst x').run P w = .ok v' w' ∧ Next α S w β S' w' ∧ VRel β v v' := by
  unfold xconvert at hx
  split at hx
  · rename_i d k k' n hs hd; cases hx; cases hr
    refine ⟨α, w, _, ?_, .refl h, .int _ _⟩
    simp only [convert, Sem.run_bind, run_underlying hs, run_underlying hd, Result.andThen]
    rfl
  · rename_i d k n hs hd; cases hx; cases hr
    refine ⟨α, w, _, ?_, .refl h, .string _⟩
    simp only [convert, Sem.run_bind, run_underlying hs, run_underlying hd, Result.andThen]
    rfl
  · rename_i d s hs hd; cases hx; cases hr
    refine ⟨α, w, _, ?_, .refl h, .string _⟩
    simp only [convert, Sem.run_bind, run_underlying hs, run_underlying hd, Result.andThen]
    rfl
  · rename_i d e s hs hd
    cases hr
    split at hx
    · rename_i he
      split at hx
      · rename_i S1 hrow
        cases hx
        obtain ⟨c, hc, hcap⟩ := run_choose_cap (P := P) s.size 0 e w
        have hbv : s.data.map (fun b => Value.int .u8 b.toNat) = (byteVals s.data.toList).toArray := by
          apply Array.ext'; simp [byteVals]
        have hlen : (byteVals s.data.toList).length = s.size := by simp [byteVals]
        let spare : List Value := List.replicate (c - s.size) (Value.int .u8 0)
        let cells : Array Value := (byteVals s.data.toList ++ spare).toArray
        have hcs : cells.size = c := by simp only [cells, spare, List.size_toArray, List.length_append, List.length_replicate, hlen]; omega
        let w1 : World := { w with heap := w.heap.push (.cells cells e), drawn := w.drawn + 1 }
        let w' : World := w1.freeze ⟨w.heap.size, c, none⟩ 1
        have hheap : w'.heap = w.heap.push (.cells cells e (c, c + 1)) := by
          simp only [w', w1, World.freeze, Nat.one_ne_zero, if_false]
          apply Array.ext
          · simp
          · intro i h1 h2
            simp only [Array.getElem_modify, Array.getElem_push]
            simp only [Array.size_push] at h2
            by_cases hi : i = w.heap.size
            · subst hi; simp
            · have : i < w.heap.size := by omega
              simp [this, Ne.symm hi]
        refine ⟨_, w', .slice (some ⟨w.heap.size, 0, none⟩) s.size c, ?_, h.row hrow (byteVals_rel _) spare e (c, c + 1) hheap ⟨rfl, rfl, rfl⟩ ⟨by
          intro o ho; simp only [spare, List.length_replicate, hlen] at ho; simp only; omega, by simp⟩, ?_⟩
        · simp only [convert, Sem.run_bind, run_underlying hs, run_underlying hd, Result.andThen, run_underlying he, Conv.stringToBytes, hcap, hbv]
          have hrep : (byteVals s.data.toList).toArray ++ Array.replicate (c - s.size) (Value.int .u8 0) = cells := by
            apply Array.ext'; simp [cells, spare]
          rw [hrep]
          have hnew : (newRow e cells).run P { w with drawn := w.drawn + 1 } = .ok ⟨w.heap.size, 0, none⟩ w1 := rfl
          simp only [hnew]
          have hm : (markStringish ⟨w.heap.size, 0, none⟩).run P w1 = .ok () w' := by
            simp only [markStringish, Sem.run_bind, shape, Sem.run, Result.andThen]
            have : w1.shape? w.heap.size = some (e, c) := by simp [World.shape?, w1, hcs]
            simp only [this]
            rfl
          simp only [hm]
          rfl
        · have := VRel.slice (α := α.upd S.next ⟨w.heap.size, 0, (byteVals s.data.toList).length + spare.length, 1⟩) S.next 0 s.size s.size c _ (Place.upd_same _ _ _) (Nat.le_refl _) hc
            (by simp only [spare, List.length_replicate, hlen]; omega)
          simpa using this
      · cases hx
    · cases hx
  · rename_i e0 e b o len cap hs hd
    split at hx
    · rename_i heq
      have hcp := heq.2
      have heq1 := heq.1
      subst heq1
      split at hx
      · rename_i he
        split at hx
        · rename_i cs esz hg
          cases hx
          exact xstringish hd he hg h hr hcp
        · cases hx
      · cases hx
    · cases hx
  · rename_i e hs hd
    obtain ⟨_, _, rfl⟩ := nil_slice_inv hr
    split at hx
    · rename_i he
      cases hx
      refine ⟨α, w, _, ?_, .refl h, .string _⟩
      simp only [convert, Sem.run_bind, run_underlying hs, run_underlying hd, Result.andThen, run_underlying he]
      rfl
    · cases hx
  · rename_i e b o len cap hs hd
    split at hx
    · rename_i he
      split at hx
      · rename_i h0
        cases hx
        subst h0
        obtain ⟨a', n', c', rfl, hn, hl⟩ := isNone_of_rel_slice hr
        subst hl
        cases a' with
        | none => simp at hn
        | some a =>
          refine ⟨α, w, _, ?_, .refl h, .string _⟩
          simp only [convert, Sem.run_bind, run_underlying hs, run_underlying hd, Result.andThen, run_underlying he, Conv.bytesToString]
          have hz : (loadCells a 0).run P w = .ok #[] w := rfl
          simp only [hz]
          rfl
      · rename_i h0
        split at hx
        · rename_i cs esz ro hg
          split at hx
          · rename_i hesz
            split at hx
            · rename_i l hl
              split at hx
              · rename_i bs hbs
                cases hx
                obtain ⟨ns, rfl, rfl⟩ := valBytes_some _ _ hbs
                rcases slice_inv hr with ⟨loc, cap', hloc, h1, h2, h3, rfl⟩ | ⟨a', rfl, rfl, rfl⟩
                · obtain ⟨vs', g1, g2, g3⟩ := h.loadN (P := P) hloc hl
                  have := ints_rel g1
                  subst this
                  refine ⟨α, w, _, ?_, .refl h, .string _⟩
                  simp only [convert, Sem.run_bind, run_underlying hs, run_underlying hd, Result.andThen, run_underlying he, Conv.bytesToString, g3]
                  rw [List.forIn_toArray, run_forIn_bytes _ (by intro n r; simp [Sem.run_pure])]
                  rw [foldl_push]
                  simp only [Sem.run_pure, Sem.run_bind, Result.andThen]
                  congr 2
                · exact absurd rfl h0
              · cases hx
            · cases hx
          · cases hx
        · cases hx
    · cases hx
  · cases hx
theorem run_load0 (a : Addr) (w : World) : (loadCells a 0).run P w = .ok #[] w := rfl

theorem firstCells_sound (h : Rel α S w) {size n m : Nat} {x x' : Value} {l : List Value} (hx : xfirst S size n x = some l) (hr : VRel α x x') (hm : xlenOf x = some m) (hn : n ≤ m) :
    ∃ l', (Builtin.firstCells size n x').run P w = .ok l'.toArray w ∧ LRel α l l' ∧ l.length = n * size := by
  unfold xfirst at hx
  split at hx
  · rename_i h0
    cases hx
    subst h0
    refine ⟨[], ?_, .nil _, by simp⟩
    unfold xlenOf at hm
    split at hm
    · rename_i a len cap
      obtain ⟨a', n', c', rfl, _, _⟩ := isNone_of_rel_slice hr
      cases a' with
      | none => rfl
      | some a => simp only [Builtin.firstCells, Nat.zero_mul]; rfl
    · rename_i s
      cases hr
      simp only [Builtin.firstCells]
      have : (s.extract 0 0).data = #[] := by apply Array.ext'; simp [ByteArray.data_extract]
      rw [this]
      simp [Sem.run_pure]
    · cases hm
  · rename_i h0
    split at hx
    · rename_i b o len cap
      simp only [xlenOf] at hm; cases hm
      rcases slice_inv hr with ⟨loc, cap', hloc, h1, h2, h3, rfl⟩ | ⟨a', rfl, rfl, rfl⟩
      · obtain ⟨vs', g1, g2, g3⟩ := h.loadN (P := P) hloc hx
        exact ⟨vs', g3, g1, g2⟩
      · omega
    · rename_i s
      split at hx
      · rename_i hs
        cases hx; cases hr
        simp only [xlenOf] at hm; cases hm
        refine ⟨byteVals (s.data.toList.take n), ?_, byteVals_rel _, by simp [byteVals] at hn ⊢; rw [hs]; omega⟩
        simp only [Builtin.firstCells]
        rw [Sem.run_pure]
        congr 1
        apply Array.ext'
        simp [byteVals, ByteArray.data_extract]
      · cases hx
    · cases hx

theorem lenOf_sound {x x' : Value} {m : Nat} (hm : xlenOf x = some m) (hr : VRel α x x') : (Builtin.lenOf x').run P w = .ok m w := by
  unfold xlenOf at hm
  split at hm
  · obtain ⟨a', n', c', rfl, _, hl⟩ := isNone_of_rel_slice hr
    cases hm
    simp only [Builtin.lenOf, hl]; rfl
  · rename_i s
    cases hr; cases hm
    simp only [Builtin.lenOf]
    have : s.data.toList.length = s.size := by simp
    rw [this]; rfl
  · cases hm

theorem growBy_le : ∀ (r c n : Nat), 256 ≤ c → c ≤ 2 * n → Builtin.growBy n r c ≤ 2 * n
  | 0, c, n, _, h => h
  | r + 1, c, n, h0, h => by
    simp only [Builtin.growBy]
    split
    · exact h
    · exact growBy_le r _ n (by omega) (by omega)
theorem nextslicecap_le {need old : Nat} (h : old < need) : Builtin.nextslicecap need old ≤ 2 * need := by
  unfold Builtin.nextslicecap
  split
  · omega
  · split
    · omega
    · exact growBy_le 4 old need (by omega) (by omega)

theorem bytes_le {need cap bytes : Nat} (h : cap ≤ 2 * need) (hb : need * bytes ≤ 2 ^ 47) : ¬ cap * bytes > 2 ^ 48 := by
  have h1 : cap * bytes ≤ 2 * need * bytes := Nat.mul_le_mul_right _ h
  have h2 : 2 * need * bytes = 2 * (need * bytes) := Nat.mul_assoc _ _ _
  omega

/-- An append that makes a new array. -/
theorem append_grow {t u elem : TypeId} {du : TypeDesc} {size bytes n sLen sCap : Nat} {z s' x' : Value} {base : Option Addr} {old new : List Value} (ty : TypeId)
    (hu : P.underlying t = some (.slice elem)) (hu2 : P.underlying u = some du) (hdu : ∀ k, du ≠ .int k) (hs : sizeT P elem = some size) (hb : bytesT P elem = some bytes) (hz : zeroT P elem = some z)
    (hsz : size ≠ 0) (hzs : z.cells.size = size) (hss : s' = .slice base sLen sCap) (hlen : (Builtin.lenOf x').run P w = .ok n w) (hneed : ¬ sLen + n ≤ sCap)
    (hmax : ((sLen + n : Nat) : Int) ≤ IntKind.i64.max) (hbytes : (sLen + n) * bytes ≤ 2 ^ 47)
    (hold : (Builtin.firstCells size sLen s').run P { w with drawn := w.drawn + 1 } = .ok old.toArray { w with drawn := w.drawn + 1 })
    (hnew : (Builtin.firstCells size n x').run P { w with drawn := w.drawn + 1 } = .ok new.toArray { w with drawn := w.drawn + 1 }) :
    ∃ (c : Nat) (w' : World) (spare : List Value), (Builtin.append_ #[t, u] ty #[s', x']).run P w = .ok (.slice (some ⟨w.heap.size, 0, none⟩) (sLen + n) c) w' ∧ sLen + n ≤ c ∧ spare.length = (c - (sLen + n)) * size ∧
      w'.heap = w.heap.push (.cells (old ++ new ++ spare).toArray elem) ∧ Alike0 w w' := by
  obtain ⟨i, hi, hib⟩ := bytesT_info hb
  obtain ⟨c, hc, hcap⟩ := run_choose_cap (P := P) (sLen + n) sCap elem w
  let w1 : World := { w with drawn := w.drawn + 1 }
  let spare := zerosL z.cells.toList (c - (sLen + n))
  refine ⟨c, { w1 with heap := w1.heap.push (.cells (old ++ new ++ spare).toArray elem) }, spare, ?_, hc, by simp only [spare, length_zerosL, Array.length_toList, hzs], rfl, ⟨rfl, rfl, rfl⟩⟩
  subst hss
  have hzeros : (match du with | .int _ => true | _ => false) = false := by cases du <;> first | rfl | exact absurd rfl (hdu _)
  have hcond : ¬ (((sLen + n : Nat) : Int) > IntKind.i64.max ∧ (false = true ∨ i.bytes = 0)) := by omega
  have hgrow : ¬ Builtin.nextslicecap (sLen + n) sCap * i.bytes > 2 ^ 48 := by
    rw [hib]; exact bytes_le (nextslicecap_le (by omega)) hbytes
  have hrest : Builtin.zeroCells z.cells (c - (sLen + n)) = spare.toArray := zeros_eq _ _
  have e1 : (#[t, u] : Array TypeId)[0]? = some t := rfl
  have e2 : (#[t, u] : Array TypeId)[1]? = some u := rfl
  have e3 : (#[Value.slice base sLen sCap, x'] : Array Value)[0]? = some (.slice base sLen sCap) := rfl
  have e4 : (#[Value.slice base sLen sCap, x'] : Array Value)[1]? = some x' := rfl
  unfold Builtin.append_
  simp only [e1, e2, e3, e4, Sem.run_bind, run_underlying hu, Result.andThen, run_sizeOf hs, run_underlying hu2, Sem.run_pure, hzeros, Bool.false_eq_true, if_false, hlen, if_neg hneed]
  rw [run_info hi]
  simp only []
  rw [if_neg (fun h => by omega), Sem.run_bind, run_info hi]
  simp only [Result.andThen]
  rw [if_neg hgrow, Sem.run_bind, hcap]
  simp only [Result.andThen]
  rw [Sem.run_bind, run_info hi]
  simp only [Result.andThen]
  rw [Sem.run_bind, run_askRoom]
  simp only [Result.andThen]
  rw [Sem.run_bind, hold]
  simp only [Result.andThen]
  rw [Sem.run_bind]
  simp only [Bool.not_false, if_true]
  rw [hnew]
  simp only [Result.andThen]
  rw [Sem.run_bind, run_zero hz]
  simp only [Result.andThen, hrest]
  have happ : old.toArray ++ new.toArray ++ spare.toArray = (old ++ new ++ spare).toArray := by simp
  rw [happ]
  rfl
/-- An append within what there is. -/
theorem append_fits {t u elem : TypeId} {du : TypeDesc} {size n sLen sCap : Nat} {s' x' : Value} {base : Option Addr} {new : List Value} (ty : TypeId)
    (hu : P.underlying t = some (.slice elem)) (hu2 : P.underlying u = some du) (hdu : ∀ k, du ≠ .int k) (hs : sizeT P elem = some size)
    (hss : s' = .slice base sLen sCap) (hlen : (Builtin.lenOf x').run P w = .ok n w) (hneed : sLen + n ≤ sCap)
    (hnew : (Builtin.firstCells size n x').run P w = .ok new.toArray w) {w' : World}
    (hst : ∀ a, base = some a → (storeCells (a.add (sLen * size)) new).run P w = .ok () w') (hno : base = none → w' = w) :
    (Builtin.append_ #[t, u] ty #[s', x']).run P w = .ok (.slice base (sLen + n) sCap) w' := by
  subst hss
  have hzeros : (match du with | .int _ => true | _ => false) = false := by cases du <;> first | rfl | exact absurd rfl (hdu _)
  have e1 : (#[t, u] : Array TypeId)[0]? = some t := rfl
  have e2 : (#[t, u] : Array TypeId)[1]? = some u := rfl
  have e3 : (#[Value.slice base sLen sCap, x'] : Array Value)[0]? = some (.slice base sLen sCap) := rfl
  have e4 : (#[Value.slice base sLen sCap, x'] : Array Value)[1]? = some x' := rfl
  unfold Builtin.append_
  simp only [e1, e2, e3, e4, Sem.run_bind, run_underlying hu, Result.andThen, run_sizeOf hs, run_underlying hu2, Sem.run_pure, hzeros, Bool.false_eq_true, if_false, hlen, if_pos hneed]
  simp only [Bool.not_false, if_true]
  rw [hnew]
  simp only [Result.andThen]
  cases base with
  | none => rw [hno rfl]; rfl
  | some a =>
    simp only []
    rw [Sem.run_bind, hst a rfl]
    rfl

theorem storeCells_nil (a : Addr) (w : World) : (storeCells a []).run P w = .ok () w := rfl

theorem St.loadN_of (S : St) {b o n : Nat} {cs : List Value} {esz : Nat} {ro : Bool} (hg : S.heap.get b = some (.row cs esz ro)) (h : o + n ≤ cs.length) :
    S.loadN b o n = some ((cs.drop o).take n) := by
  unfold St.loadN; rw [hg]; simp only; rw [if_pos h]

theorem xappend_sound (h : Rel α S w) {ts : Array TypeId} {ty : TypeId} {args : List Value} {args' : Array Value} {v : Value} {S' : St} (hx : xappend P S ts.toList args = some (v, S')) (hr : LRel α args args'.toList) :
    ∃ β w' v', (Builtin.append_ ts ty args').run P w = .ok v' w' ∧ Next α S w β S' w' ∧ VRel β v v' := by
  unfold xappend at hx
  split at hx
  case h_2 => cases hx
  rename_i t u s x hts
  obtain rfl : ts = #[t, u] := by apply Array.ext'; simpa using hts
  obtain ⟨s', x', rfl, hrs, hrx⟩ : ∃ s' x', args' = #[s', x'] ∧ VRel α s s' ∧ VRel α x x' := by
    have hl := hr.1
    obtain ⟨l⟩ := args'
    match l, hl with
    | [a, b], _ => exact ⟨a, b, rfl, hr.2 0 _ _ rfl rfl, hr.2 1 _ _ rfl rfl⟩
  split at hx
  · cases hx
  · rename_i elem du hnd hu hu2
    have hdu : ∀ k, du ≠ .int k := fun k e => hnd k e
    split at hx
    case h_2 => cases hx
    rename_i size bytes z n hs hb hz hxl
    split at hx
    · cases hx
    rename_i hc
    have hsz : size ≠ 0 := fun e => hc (.inl e)
    have hzs : z.cells.size = size := by
      rcases Nat.decEq z.cells.size size with e | e
      · exact absurd (.inr e) hc
      · exact e
    split at hx
    case h_2 => cases hx
    rename_i new hnew
    have hlen := lenOf_sound (P := P) (w := w) hxl hrx
    let w1 : World := { w with drawn := w.drawn + 1 }
    have h1 : Rel α S w1 := h.of_heap rfl
    obtain ⟨new', hn1, hn2, hn3⟩ := firstCells_sound (P := P) h hnew hrx hxl (Nat.le_refl _)
    obtain ⟨newg, hg1, hg2, hg3⟩ := firstCells_sound (P := P) h1 hnew hrx hxl (Nat.le_refl _)
    split at hx
    · -- nil
      obtain ⟨_, _, rfl⟩ := nil_slice_inv hrs
      split at hx
      · rename_i h0
        cases hx
        subst h0
        refine ⟨α, w, _, append_fits ty hu hu2 hdu hs rfl hlen (by omega) hn1 (fun a e => by cases e) (fun _ => rfl), .refl h, .sliceNil⟩
      · rename_i h0
        split at hx
        · rename_i hbm
          split at hx
          · rename_i S1 hrow
            cases hx
            obtain ⟨c, w', spare, g1, g2, g3, g4, g5⟩ := append_grow (P := P) (w := w) (base := none) (sLen := 0) (sCap := 0) ty (old := []) hu hu2 hdu hs hb hz hsz hzs rfl hlen (by omega) (by simpa using hbm.2) (by simpa using hbm.1) rfl hg1
            have hl2 : newg.length = n * size := by rw [← hg2.1]; exact hg3
            refine ⟨_, w', _, g1, h.row hrow hg2 spare elem (0, 0) (by simpa using g4) g5 ⟨fun o _ => by simp, Nat.le_refl _⟩, ?_⟩
            have hnc : n ≤ c := by omega
            have := VRel.slice (α := α.upd S.next ⟨w.heap.size, 0, newg.length + spare.length, size⟩) S.next 0 n n c _ (Place.upd_same _ _ _) (Nat.le_refl _) hnc
              (by
                simp only [g3, hl2, Nat.zero_add]
                have e : n + (c - n) = c := by omega
                have := Nat.add_mul n (c - n) size
                rw [e] at this
                omega)
            simpa using this
          · cases hx
        · cases hx
    · -- some
      rename_i b o len cap
      split at hx
      case h_2 => cases hx
      rename_i cs esz ro hg
      split at hx
      · cases hx
      rename_i hcc
      have hesz : esz = size := by
        rcases Nat.decEq esz size with e | e
        · exact absurd (.inl e) hcc
        · exact e
      have hro : ro = false := by
        cases ro
        · rfl
        · exact absurd (.inr (.inl rfl)) hcc
      have hlc : len ≤ cap := by
        have : ¬ len > cap := fun e => hcc (.inr (.inr e))
        omega
      subst hro
      split at hx
      · rename_i h0
        cases hx
        subst h0
        have hnil : new' = [] := by have := hn2.1; rw [hn3] at this; simp at this; exact List.eq_nil_of_length_eq_zero (by omega)
        subst hnil
        rcases slice_inv hrs with ⟨l, cap', hl, h2, h3, h4, rfl⟩ | ⟨a', rfl, rfl, rfl⟩
        · exact ⟨α, w, _, append_fits ty hu hu2 hdu hs rfl hlen (by omega) hn1 (fun a e => storeCells_nil _ _) (fun _ => rfl), .refl h, .slice b o len cap cap' l hl h2 h3 h4⟩
        · exact ⟨α, w, _, append_fits ty hu hu2 hdu hs rfl hlen (by omega) hn1 (fun a e => storeCells_nil _ _) (fun _ => rfl), .refl h, .sliceEnd _ _⟩
      · rename_i h0
        split at hx
        · -- within the capacity
          rename_i hfit
          split at hx
          · rename_i S1 hst
            cases hx
            rcases slice_inv hrs with ⟨l, cap', hl, h2, h3, h4, rfl⟩ | ⟨a', rfl, rfl, rfl⟩
            · obtain ⟨w', e1, e2⟩ := h.storeN (P := P) hl hn2 hst
              refine ⟨α, w', _, append_fits ty hu hu2 hdu hs rfl hlen (by omega) hn1 (fun a e => ?_) (fun e => by cases e), e2, .slice b o (len + n) cap cap' l hl hfit h3 h4⟩
              cases e
              rw [add_eq, Nat.add_assoc]
              exact e1
            · omega
          · cases hx
        · rename_i hfit
          split at hx
          · rename_i hbm
            obtain ⟨hb1, hb2, hold⟩ := hbm
            split at hx
            · rename_i S1 hrow
              cases hx
              obtain ⟨loc, hloc, hent⟩ := h.ent _ _ hg
              obtain ⟨hesz2, c0, e0, fr, hblk, hroom, hcl, hfr, hcells⟩ := hent
              have hfr := hfr rfl
              have hk := Next.kill h b
              have grow : ∀ (base : Option Addr) (sCap : Nat) (old' : List Value) , VRel α (.slice (some ⟨b, o, none⟩) len cap) (.slice base len sCap) → ¬ len + n ≤ sCap →
                  (Builtin.firstCells size len (.slice base len sCap)).run P w1 = .ok old'.toArray w1 → LRel α ((cs.drop o).take (len * size)) old' →
                  ∃ β w' v', (Builtin.append_ #[t, u] ty #[.slice base len sCap, x']).run P w = .ok v' w' ∧ Next α S w β S' w' ∧ VRel β (.slice (some ⟨S.next, 0, none⟩) (len + n) (len + n)) v' := by
                intro base sCap old' _ hno hrun hro
                obtain ⟨c, w', spare, g1, g2, g3, g4, g5⟩ := append_grow (P := P) (w := w) ty hu hu2 hdu hs hb hz hsz hzs rfl hlen hno hb2 hb1 hrun hg1
                have hl1 : old'.length = len * size := by rw [← hro.1]; simp; omega
                have hl2 : newg.length = n * size := by rw [← hg2.1]; exact hg3
                refine ⟨_, w', _, g1, hk.trans (hk.rel.row hrow (hro.append hg2) spare elem (0, 0) g4 g5 ⟨fun o _ => by simp, Nat.le_refl _⟩), ?_⟩
                have := VRel.slice (α := α.upd S.next ⟨w.heap.size, 0, (old' ++ newg).length + spare.length, size⟩) S.next 0 (len + n) (len + n) c _ (Place.upd_same _ _ _) (Nat.le_refl _) g2
                  (by
                    simp only [g3, hl1, hl2, List.length_append, Nat.zero_add]
                    have e : len + n + (c - (len + n)) = c := by omega
                    have t1 := Nat.add_mul (len + n) (c - (len + n)) size
                    have t2 := Nat.add_mul len n size
                    rw [e] at t1
                    omega)
                exact this
              rcases slice_inv hrs with ⟨l, cap', hl, h2, h3, h4, rfl⟩ | ⟨a', rfl, rfl, rfl⟩
              · rw [hloc] at hl; cases hl
                by_cases hin : len + n ≤ cap'
                · -- in place
                  have hnl : new'.length = n * size := by rw [← hn2.1]; exact hn3
                  have hmul : (len + n) * size ≤ cap' * size := Nat.mul_le_mul_right _ hin
                  rw [Nat.add_mul] at hmul
                  rw [← hesz2, hesz] at h4
                  have hone : new'.all one = true := by
                    have : ((cs.drop o).take (len * size) ++ new).all one = true := by
                      unfold St.row at hrow
                      split at hrow
                      · assumption
                      · cases hrow
                    rw [List.all_append, Bool.and_eq_true] at this
                    exact hn2.all_one this.2
                  obtain ⟨w', c', e1, e2, e3, e4, e5, e6, e7⟩ := run_storeCells (P := P) loc.blk (loc.off + (o + len * size)) e0 fr new' 0 c0 w hblk (by omega) hfr.1 hone
                  rw [row_next hrow]
                  refine ⟨_, w', _, append_fits ty hu hu2 hdu hs rfl hlen hin hn1 (fun a e => ?_) (fun e => by cases e),
                    Next.renew h hg rfl hloc _ rfl ⟨loc.blk, loc.off + o, loc.room - o, size⟩ rfl e3 e2 e7 ⟨rfl, c', e0, fr, e4, by simp only; omega, ?_, fun _ => by rw [e5]; exact hfr, ?_⟩, ?_⟩
                  · cases e
                    rw [add_eq, Nat.add_assoc]
                    exact e1
                  · simp only [List.length_append, List.length_take, List.length_drop, hn3]; omega
                  · intro j v hj
                    simp only
                    rw [e6]
                    by_cases hjl : j < len * size
                    · rw [List.getElem?_append_left (by simp; omega), List.getElem?_take, if_pos hjl, List.getElem?_drop] at hj
                      rw [if_neg (by omega)]
                      obtain ⟨v', f1, f2⟩ := hcells _ _ hj
                      exact ⟨v', by rw [← f1]; congr 1; omega, f2.mono (h.ext _)⟩
                    · rw [List.getElem?_append_right (by simp; omega)] at hj
                      have hmin : ((cs.drop o).take (len * size)).length = len * size := by simp; omega
                      rw [hmin] at hj
                      obtain ⟨v', f1, f2⟩ := hn2.get hj
                      have hlt : j - len * size < new'.length := (List.getElem?_eq_some_iff.1 f1).1
                      rw [if_pos (by omega)]
                      exact ⟨v', by rw [← f1]; congr 1; omega, f2.mono (h.ext _)⟩
                  · have := VRel.slice (α := α.upd S.next ⟨loc.blk, loc.off + o, loc.room - o, size⟩) S.next 0 (len + n) (len + n) cap' _ (Place.upd_same _ _ _) (Nat.le_refl _) hin
                      (by simp only; omega)
                    simpa using this
                · obtain ⟨old', f1, f2, f3⟩ := h1.loadN (P := P) hloc (S.loadN_of hg hold)
                  exact grow _ _ old' hrs hin f3 f1
              · exact grow _ _ [] hrs (by omega) (by simp only [Builtin.firstCells, Nat.zero_mul]; rfl) (by simp only [Nat.zero_mul, List.take_zero]; exact .nil _)
            · cases hx
          · cases hx
    · cases hx
  · cases hx
end
end Go.Xe
