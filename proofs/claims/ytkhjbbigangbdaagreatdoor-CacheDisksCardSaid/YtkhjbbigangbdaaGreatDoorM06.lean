/- A part of the proof. -/
import Derived.Test.YtkhjbbigangbdaaGreatDoorM05
set_option linter.all false
namespace Go.Xe
open Go
namespace Y
variable {β γ : Type}
theorem pure_is {a b : β} : (pure a = some (true, b)) = (a = b) := by
 simp [pure]
theorem req_is {c : Bool} {x : Y β} {b : β} : (req c x = some (true, b)) = (c = true ∧ x = some (true, b)) := by
 unfold req
 cases x with
 | none => simp
 | some p => obtain ⟨d, e⟩ := p; simp [and_assoc]
theorem bind_is {x : Y β} {f : β → Y γ} {r : γ} : (bind x f = some (true, r)) = ∃ b, x = some (true, b) ∧ f b = some (true, r) := by
 unfold bind
 cases x with
 | none => simp
 | some p =>
  obtain ⟨d, e⟩ := p
  simp only [req_is, Option.some.injEq, Prod.mk.injEq, eq_iff_iff]
  constructor
  ·rintro ⟨h1, h2⟩; exact ⟨e, ⟨h1, rfl⟩, h2⟩
  ·rintro ⟨b, ⟨h1, rfl⟩, h2⟩; exact ⟨h1, h2⟩
theorem of_is {x : Option β} {b : β} : (of x = some (true, b)) = (x = some b) := by
 unfold of
 cases x <;> simp
end Y
theorem intOf_is {k : IntKind} {v : Value} (h : isInt k v = true) : Value.int k (intOf v) = v := by
 cases v <;> simp_all [isInt, intOf]
theorem boolOf_is {v : Value} (h : isBool v = true) : Value.bool (boolOf v) = v := by
 cases v <;> simp_all [isBool, boolOf]
theorem strOf_is {v : Value} (h : isStr v = true) : Value.string (strOf v) = v := by
 cases v <;> simp_all [isStr, strOf]
section
variable {P : Program} {S S' : St}
theorem yloadN_is {i o n : Nat} {l : List Value} (h : S.yloadN i o n = some (true, l)) : S.loadN i o n = some l := by
 unfold St.yloadN at h; unfold St.loadN
 split at h
 ·rename_i hg
  simp only [Y.req_is, Y.pure_is, decide_eq_true_eq] at h
  rw [hg]
  simp only [h.1, if_true, h.2]
 ·cases h
theorem yload1_is {i o : Nat} {v : Value} (h : S.yload1 i o = some (true, v)) : S.load1 i o = some v := by
 unfold St.yload1 at h; unfold St.load1
 split at h
 ·rename_i hg
  simp only [Y.req_is, Y.pure_is, decide_eq_true_eq] at h
  obtain ⟨h1, rfl⟩ := h
  rw [hg]
  simp only [List.getD_eq_getElem?_getD, List.getElem?_eq_getElem h1, Option.getD_some]
 ·cases h
theorem ystoreN_is {i o : Nat} {vs : List Value} (h : S.ystoreN i o vs = some (true, S')) : S.storeN i o vs = some S' := by
 unfold St.ystoreN at h; unfold St.storeN
 split at h
 ·rename_i hg
  simp only [Y.req_is, Y.pure_is, decide_eq_true_eq] at h
  obtain ⟨h1, h2, rfl⟩ := h
  rw [hg]
  simp only []
  rw [if_pos ⟨h1, h2⟩]
 ·cases h
theorem ystore1_is {i o : Nat} {v : Value} (h : S.ystore1 i o v = some (true, S')) : S.store1 i o v = some S' := by
 unfold St.ystore1 at h; unfold St.store1
 split at h
 ·rename_i hg
  simp only [Y.req_is, Y.pure_is, decide_eq_true_eq] at h
  obtain ⟨h1, h2, rfl⟩ := h
  rw [hg]
  simp only []
  rw [if_pos ⟨h1, h2⟩]
 ·cases h
theorem yrow_is {cs : List Value} {esz : Nat} (h : S.yrow cs esz = some (true, S')) : S.row cs esz = some S' := by
 unfold St.yrow at h; unfold St.row
 simp only [Y.req_is, Y.pure_is] at h
 rw [if_pos h.1, h.2]
theorem ywrap_is {t : TypeId} {v u : Value} (h : ywrap P t v = some (true, u)) : u = v := by
 unfold ywrap at h
 split at h
 ·simp only [Y.req_is, Y.pure_is] at h; rw [← h.2, intOf_is h.1]
 ·simp only [Y.req_is, Y.pure_is] at h; rw [← h.2, boolOf_is h.1]
 ·simp only [Y.req_is, Y.pure_is] at h; rw [← h.2, strOf_is h.1]
 ·simp only [Y.pure_is] at h; exact h.symm
theorem yload_is {t : TypeId} {a v : Value} (h : yload P S t a = some (true, v)) : xload P S t a = some v := by
 unfold yload at h; unfold xload
 split at h
 ·split at h
  ·split at h
   ·simp only [Y.bind_is, Y.pure_is] at h
    obtain ⟨l, h1, rfl⟩ := h
    simp only [*, yloadN_is h1]
   ·cases h
  ·simp only [Y.bind_is] at h
   obtain ⟨u, h1, h2⟩ := h
   simp only [*, yload1_is h1, ywrap_is h2]
  ·cases h
 ·cases h
theorem ystore_is {t : TypeId} {a v : Value} (h : ystore P S t a v = some (true, S')) : xstore P S t a v = some S' := by
 unfold ystore at h; unfold xstore
 split at h
 ·split at h
  ·split at h
   ·rename_i hs
    simp only [hs, if_true, ystoreN_is h]
   ·cases h
  ·rename_i hv
   split at h
   ·rename_i hs
    cases v <;> first | (exact absurd rfl (hv _)) | simp only [hs, if_true, ystore1_is h]
   ·cases h
 ·cases h
theorem ynewVar_is {t : TypeId} {v : Value} {r : Value × St} (h : ynewVar P S t v = some (true, r)) : xnewVar P S t v = some r := by
 unfold ynewVar at h; unfold xnewVar
 simp only [Y.bind_is, Y.pure_is] at h
 obtain ⟨T, h1, rfl⟩ := h
 simp only [yrow_is h1]
theorem ybuildSlice_is {t : TypeId} {len : Nat} {parts : List (Nat × Value)} {r : Value × St} (h : ybuildSlice P S t len parts = some (true, r)) : xbuildSlice P S t len parts = some r := by
 unfold ybuildSlice at h; unfold xbuildSlice
 split at h
 ·split at h
  ·split at h
   ·cases h
   ·rename_i hc
    split at h
    ·simp only [Y.bind_is, Y.pure_is] at h
     obtain ⟨T, h1, rfl⟩ := h
     simp only [*, if_false, yrow_is h1]
    ·cases h
  ·cases h
 ·cases h
theorem maxI64 {n : Nat} (h : n ≤ 9223372036854775807) : (n : Int) ≤ IntKind.i64.max := by
 have : IntKind.i64.max = 9223372036854775807 := by decide
 omega
theorem capI64 {b : Nat} {c : Int} (hc : 0 ≤ c) (h : b * c.toNat ≤ 281474976710656) : (b : Int) * c ≤ 2 ^ 48 := by
 have e : c = (c.toNat : Int) := (Int.toNat_of_nonneg hc).symm
 rw [e, ← Int.natCast_mul]
 have : ((b * c.toNat : Nat) : Int) ≤ ((281474976710656 : Nat) : Int) := by exact_mod_cast h
 exact Int.le_trans this (by decide)
theorem ymakeSlice_is {t : TypeId} {l c : Value} {r : Value × St} (h : ymakeSlice P S t l c = some (true, r)) : xmakeSlice P S t l c = some r := by
 unfold ymakeSlice at h; unfold xmakeSlice
 split at h
 ·split at h
  ·split at h
   ·split at h
    ·rename_i hc
     simp only [Y.req_is, Y.bind_is, Y.pure_is, decide_eq_true_eq] at h
     obtain ⟨h1, h2, h3, h4, h5, T, h6, rfl⟩ := h
     have h5' := capI64 (Int.le_trans h3 h4) h5
     simp only [*]
     simp [hc.1, yrow_is h6]
    ·cases h
   ·cases h
  ·cases h
 ·cases h
theorem yindexAddr_is {t : TypeId} {x ix v : Value} (h : yindexAddr P t x ix = some (true, v)) : xindexAddr P t x ix = some v := by
 unfold yindexAddr at h; unfold xindexAddr
 split at h
 ·split at h
  ·split at h
   ·simp only [Y.req_is, Y.pure_is, decide_eq_true_eq] at h
    obtain ⟨h1, h2, rfl⟩ := h
    simp only [*, and_self, if_true]
   ·cases h
  ·split at h
   ·simp only [Y.req_is, Y.pure_is, decide_eq_true_eq] at h
    obtain ⟨h1, h2, rfl⟩ := h
    simp only [*, and_self, if_true]
   ·cases h
  ·cases h
 ·cases h
theorem yindex_is {t : TypeId} {x ix v : Value} (h : yindex P t x ix = some (true, v)) : xindex P t x ix = some v := by
 unfold yindex at h
 split at h
 ·split at h
  ·unfold xindex
   simp only [Y.req_is, Y.pure_is, decide_eq_true_eq] at h
   obtain ⟨h1, h2, rfl⟩ := h
   simp only [*, if_true, List.getElem?_eq_getElem h2, List.getD_eq_getElem?_getD, Option.getD_some]
  ·simp only [Y.of_is] at h; exact h
 ·cases h
theorem yb_none {d top n : Nat} (h : yb d top none = some (true, n)) : n = d := by
 unfold yb at h; simp only [Y.pure_is] at h; exact h.symm
theorem yb_some {d top n : Nat} {v : Value} (h : yb d top (some v) = some (true, n)) : ∃ k i, v = .int k i ∧ 0 ≤ i ∧ i ≤ (top : Int) ∧ n = i.toNat := by
 cases v <;> first
  | (simp only [yb, Y.req_is, Y.pure_is, decide_eq_true_eq] at h; exact ⟨_, _, rfl, h.1, h.2.1, h.2.2.symm⟩)
  | (simp [yb] at h; done)
theorem ybounds_is {len cap : Nat} {lo hi mx : Option Value} {p : Nat × Nat × Nat} (h : ybounds len cap lo hi mx = some (true, p)) : xbounds len cap lo hi mx = some p := by
 unfold ybounds at h; unfold xbounds
 simp only [Y.bind_is] at h
 obtain ⟨m, h1, k, h2, l, h3, h4⟩ := h
 simp only [Y.pure_is] at h4
 subst h4
 split at h2
 ·cases h2
 ·rename_i hc
  cases mx with
  | none =>
   have := yb_none h1; subst this
   cases hi with
   | none =>
    have := yb_none h2; subst this
    cases lo with
    | none => have := yb_none h3; subst this; rfl
    | some u => obtain ⟨_, _, rfl, q1, q2, rfl⟩ := yb_some h3; simp [q1, q2]
   | some u =>
    obtain ⟨_, _, rfl, p1, p2, rfl⟩ := yb_some h2
    cases lo with
    | none => have := yb_none h3; subst this; simp [p1, p2]
    | some u => obtain ⟨_, _, rfl, q1, q2, rfl⟩ := yb_some h3; simp only [p1, p2, q1, q2, and_self, if_true]
  | some u =>
   obtain ⟨_, _, rfl, r1, r2, rfl⟩ := yb_some h1
   cases hi with
   | none => simp at hc
   | some u =>
    obtain ⟨_, _, rfl, p1, p2, rfl⟩ := yb_some h2
    cases lo with
    | none => have := yb_none h3; subst this; simp only [r1, r2, p1, p2, and_self, if_true]
    | some u => obtain ⟨_, _, rfl, q1, q2, rfl⟩ := yb_some h3; simp only [r1, r2, p1, p2, q1, q2, and_self, if_true]
theorem yslice_is {t : TypeId} {x v : Value} {lo hi mx : Option Value} (h : yslice P S t x lo hi mx = some (true, v)) : xslice P S t x lo hi mx = some v := by
 unfold yslice at h
 split at h
 ·rename_i hu
  unfold xslice
  split at h
  ·cases h
  ·rename_i hm
   simp only [Y.bind_is, Y.pure_is] at h
   obtain ⟨⟨a, b, c⟩, h1, rfl⟩ := h
   simp only [hu, hm, ybounds_is h1]
   simp
 ·rename_i hu
  unfold xslice
  split at h
  ·rename_i hs hg
   split at h
   ·rename_i he
    simp only [Y.bind_is, Y.pure_is] at h
    obtain ⟨⟨a, b, c⟩, h1, rfl⟩ := h
    simp only [hu, hs, hg, ybounds_is h1]
    rw [if_pos he]
   ·cases h
  ·cases h
 ·simp only [Y.of_is] at h; exact h
theorem yint_is {op : BinOp} {k : IntKind} {a b : Int} {v : Value} (h : yint op k a b = some (true, v)) : xint op k a b = some v := by
 unfold yint at h
 split at h
 ·simp only [Y.req_is, Y.pure_is, Bool.not_eq_true', decide_eq_false_iff_not] at h
  unfold xint; simp only [h.1, if_false, h.2]
 ·simp only [Y.req_is, Y.pure_is, Bool.not_eq_true', decide_eq_false_iff_not] at h
  unfold xint; simp only [h.1, if_false, h.2]
 ·simp only [Y.of_is] at h; exact h
theorem yshift_is {op : BinOp} {k : IntKind} {a b : Int} {v : Value} (h : yshift op k a b = some (true, v)) : xshift op k a b = some v := by
 unfold yshift at h; unfold xshift
 split at h
 ·simp only [Y.req_is, Y.pure_is, Bool.not_eq_true', decide_eq_false_iff_not] at h
  simp only [h.1, if_false, h.2]
 ·simp only [Y.req_is, Y.pure_is, Bool.not_eq_true', decide_eq_false_iff_not] at h
  simp only [h.1, if_false, h.2]
 ·cases h
theorem ystr_is {op : BinOp} {a b : ByteArray} {v : Value} (h : ystr op a b = some (true, v)) : xstr op a b = some v := by
 unfold ystr at h
 split at h
 ·simp only [Y.req_is, Y.pure_is, decide_eq_true_eq] at h
  unfold xstr; simp only [h.1, if_true, h.2]
 ·simp only [Y.of_is] at h; exact h
theorem yeqF_is {eq : TypeId → Value → Value → Option Bool} : ∀ (fs : List Field) (xs ys : List Value) (b : Bool), yeqF P eq fs xs ys = some b → xeqF P eq fs xs ys = some b
 | [], _, _, b, h => by simpa [yeqF, xeqF] using h
 | f :: r, xs, ys, b, h => by
  simp only [yeqF] at h; simp only [xeqF]
  split at h
  ·rename_i hf; simp only [hf, if_true]; exact yeqF_is r xs ys b h
  ·rename_i hf
   simp only [hf, if_false]
   split at h
   ·rename_i u v hu hv
    simp only [hu, hv]
    split at h
    ·rename_i c d hc hd
     cases h
     have := yeqF_is r xs ys d hd
     cases c <;> simp only [hc, this, Bool.true_and, Bool.false_and]
    ·cases h
   ·cases h
theorem yeq_is {d : Nat} {t : TypeId} {x y : Value} {b : Bool} (h : yeq P d t x y = some b) : xeq P (d + 1) t x y = some b := by
 unfold yeq at h
 split at h
 ·rename_i hu
  unfold xeq
  simp only [hu]
  split at h
  ·cases h
  ·rename_i hs
   simp only [hs]
   exact yeqF_is _ _ _ _ h
 ·exact h
theorem ybin_is {op : BinOp} {t : TypeId} {c : Bool} {x y v : Value} (h : ybin P op t c x y = some (true, v)) : xbin P op t c x y = some v := by
 unfold ybin at h
 split at h
 ·unfold xbin; exact yshift_is h
 ·unfold xbin; exact yshift_is h
 ·rename_i k a k' b h1 h2
  split at h
  ·rename_i hk
   have := yint_is h
   cases op <;> first
    | (unfold xbin; simp only [hk, if_true]; subst hk; exact this)
    | exact (h1 rfl).elim
    | exact (h2 rfl).elim
    | exact (h1 _ _ _ _ rfl rfl rfl).elim
    | exact (h2 _ _ _ _ rfl rfl rfl).elim
  ·cases h
 ·have := ystr_is h
  cases op <;> (unfold xbin; exact this)
 ·split at h
  ·rename_i he
   split at h
   ·rename_i b hb
    simp only [Y.pure_is] at h
    subst h
    have := yeq_is hb
    unfold xbin
    simp only [he, if_true, this]
   ·cases h
  ·cases h
 ·split at h
  ·rename_i he
   split at h
   ·rename_i b hb
    simp only [Y.pure_is] at h
    subst h
    have := yeq_is hb
    unfold xbin
    simp only [he, if_true, this]
   ·cases h
  ·cases h
 ·simp only [Y.of_is] at h; exact h
theorem bytesOf_is : ∀ {l : List Value}, l.all (isInt .u8) = true → valBytes l = some (bytesOf l)
 | [], _ => rfl
 | v :: r, h => by
  simp only [List.all_cons, Bool.and_eq_true] at h
  have ih := bytesOf_is h.2
  cases v <;> simp only [isInt, Bool.false_eq_true, false_and, and_false] at h
  rename_i k n
  have hk : IntKind.u8 = k := of_decide_eq_true h.1
  subst hk
  simp only [valBytes, ih]
  rfl
theorem yfirst_is {size n : Nat} {x : Value} {z : Bool} {l : List Value} (h : yfirst S size n x z = some (true, l)) : xfirst S size n x = some l ∧ (z = true ↔ n = 0) := by
 unfold yfirst at h; unfold xfirst
 split at h
 ·rename_i hz
  simp only [Y.req_is, Y.pure_is, decide_eq_true_eq] at h
  rw [if_pos h.1, h.2]
  exact ⟨rfl, by simp [hz, h.1]⟩
 ·rename_i hz
  simp only [Y.req_is, Bool.not_eq_true', decide_eq_false_iff_not] at h
  rw [if_neg h.1]
  refine ⟨?_, by simp [hz, h.1]⟩
  have h2 := h.2
  split at h2
  ·exact yloadN_is h2
  ·split at h2
   ·rename_i hs
    simp only [Y.pure_is] at h2
    simp only [hs, if_true, h2]
   ·cases h2
  ·cases h2
theorem yconvert_is {src dst : TypeId} {x : Value} {z : Bool} {r : Value × St} (h : yconvert P S src dst x z = some (true, r)) : xconvert P S src dst x = some r := by
 unfold yconvert at h
 split at h
 ·rename_i hs hd
  split at h
  ·rename_i he
   unfold xconvert
   simp only [hs, hd, he]
   split at h
   ·rename_i hz
    simp only [Y.req_is, Y.pure_is, decide_eq_true_eq] at h
    rw [if_pos h.1, h.2]
   ·simp only [Y.req_is, Bool.not_eq_true', decide_eq_false_iff_not] at h
    rw [if_neg h.1]
    have h2 := h.2
    split at h2
    ·rename_i hg
     split at h2
     ·rename_i hesz
      simp only [Y.bind_is, Y.req_is, Y.pure_is] at h2
      obtain ⟨l, h3, h4, rfl⟩ := h2
      simp only [hg, hesz, if_true, yloadN_is h3, bytesOf_is h4]
     ·cases h2
    ·cases h2
  ·cases h
 ·rename_i hs hd
  split at h
  ·rename_i he
   simp only [Y.bind_is, Y.pure_is] at h
   obtain ⟨T, h1, rfl⟩ := h
   unfold xconvert
   simp only [hs, hd, he, yrow_is h1]
  ·cases h
 ·simp only [Y.of_is] at h; exact h
theorem yappend_is {ts : List TypeId} {args : List Value} {z f : Bool} {r : Value × St} (h : yappend P S ts args z f = some (true, r)) : xappend P S ts args = some r := by
 unfold yappend at h; unfold xappend
 split at h
 ·split at h
  ·cases h
  ·rename_i hu1 hu2 hno
   split at h
   ·rename_i hs hb hz hl
    split at h
    ·cases h
    ·rename_i hc
     simp only [hu1, hu2, hno, hs, hb, hz, hl, hc, if_false]
     simp only [Y.bind_is] at h
     obtain ⟨new, h1, h2⟩ := h
     obtain ⟨h3, h4⟩ := yfirst_is h1
     simp only [h3]
     split at h2
     ·split at h2
      ·rename_i hz1
       simp only [Y.pure_is] at h2
       simp only [h4.1 hz1, if_true, h2]
      ·rename_i hz1
       simp only [Y.req_is, Y.bind_is, Y.pure_is, decide_eq_true_eq] at h2
       obtain ⟨h5, h6, T, h7, rfl⟩ := h2
       have : ¬ _ = 0 := fun e => hz1 (h4.2 e)
       have h6' := maxI64 h6
       simp only [this, if_false, h5, h6', and_self, if_true, yrow_is h7]
     ·split at h2
      ·rename_i hg
       split at h2
       ·cases h2
       ·rename_i hc2
        simp only [not_or] at hc2
        simp only [Y.req_is, decide_eq_true_eq] at h2
        obtain ⟨h5, h2⟩ := h2
        have hc3 : ¬ (_ ≠ _ ∨ _ = true ∨ _ > _) := fun e => by
         rcases e with e | e | e
         ·exact hc2.1 e
         ·exact hc2.2 e
         ·exact absurd h5 (Nat.not_le.2 e)
        simp only [hg]
        rw [if_neg hc3]
        split at h2
        ·rename_i hz1
         simp only [Y.pure_is] at h2
         simp only [h4.1 hz1, if_true, h2]
        ·rename_i hz1
         have hn0 : ¬ _ = 0 := fun e => hz1 (h4.2 e)
         rw [if_neg hn0]
         split at h2
         ·simp only [Y.req_is, Y.bind_is, Y.pure_is, decide_eq_true_eq] at h2
          obtain ⟨h6, T, h7, rfl⟩ := h2
          simp only [h6, if_true, ystoreN_is h7]
         ·simp only [Y.req_is, Y.bind_is, Y.pure_is, decide_eq_true_eq, Bool.not_eq_true', decide_eq_false_iff_not] at h2
          obtain ⟨h6, h7, h8, h9, T, h10, rfl⟩ := h2
          rw [if_neg h6, if_pos ⟨h7, maxI64 h8, h9⟩, yrow_is h10]
      ·cases h2
     ·cases h2
   ·cases h
  ·cases h
 ·cases h
theorem ycopy_is {ts : List TypeId} {args : List Value} {z f : Bool} {r : Value × St} (h : ycopy P S ts args z f = some (true, r)) : xcopy P S ts args = some r := by
 unfold ycopy at h
 split at h
 ·split at h
  ·rename_i hu
   split at h
   ·rename_i hs hl
    unfold xcopy
    split at h
    ·cases h
    ·rename_i hc
     simp only [hu, hs, hl, hc, if_false]
     simp only [Y.req_is, Y.bind_is] at h
     obtain ⟨h1, l, h2, h3⟩ := h
     obtain ⟨h4, h5⟩ := yfirst_is h2
     rename_i size n b o len cap
     have hm : min n len = (if f then n else len) := by
      cases f with
      | true => simp only [if_true, decide_eq_true_eq] at h1 ⊢; exact Nat.min_eq_left h1
      | false => simp only [Bool.false_eq_true, if_false, decide_eq_true_eq] at h1 ⊢; exact Nat.min_eq_right h1
     rw [hm, h4]
     simp only []
     split at h3
     ·rename_i hz
      simp only [Y.pure_is] at h3
      rw [if_pos (h5.1 hz), h3]
     ·rename_i hz
      simp only [Y.bind_is, Y.pure_is] at h3
      obtain ⟨T, h6, rfl⟩ := h3
      rw [if_neg (fun e => hz (h5.2 e)), ystoreN_is h6]
   ·simp only [Y.of_is] at h; exact h
  ·cases h
 ·cases h
theorem ybuiltin_is {b : Builtin} {ts : List TypeId} {args : List Value} {z f : Bool} {r : Value × St} (h : ybuiltin P S b ts args z f = some (true, r)) : xbuiltin P S b ts args = some r := by
 unfold ybuiltin at h
 split at h
 ·unfold xbuiltin; exact yappend_is h
 ·unfold xbuiltin; exact ycopy_is h
 ·simp only [Y.of_is] at h; exact h
theorem yval_is {x : Y Value} {y : Option Value} {r : Res × St} (h : yval S x = some (true, r)) (hx : ∀ v, x = some (true, v) → y = some v) : val S y = some r := by
 unfold yval at h
 simp only [Y.bind_is, Y.pure_is] at h
 obtain ⟨v, h1, rfl⟩ := h
 rw [hx v h1]; rfl
theorem yvals_is {x : Y (Value × St)} {y : Option (Value × St)} {r : Res × St} (h : yvals x = some (true, r)) (hx : ∀ v, x = some (true, v) → y = some v) : vals y = some r := by
 unfold yvals at h
 simp only [Y.bind_is, Y.pure_is] at h
 obtain ⟨v, h1, rfl⟩ := h
 rw [hx v h1]; rfl
theorem yskips_is {x : Y St} {y : Option St} {r : Res × St} (h : yskips x = some (true, r)) (hx : ∀ v, x = some (true, v) → y = some v) : skips y = some r := by
 unfold yskips at h
 simp only [Y.bind_is, Y.pure_is] at h
 obtain ⟨v, h1, rfl⟩ := h
 rw [hx v h1]; rfl
theorem yop_is {okF : FuncId → Bool} {ρ : Operand → Option Value} {o : Oper} {z f : Bool} {r : Res × St} (h : yop P okF S ρ o z f = some (true, r)) : xop P okF S ρ o = some r := by
 unfold yop at h
 split at h
 ·rename_i ho
  unfold xop; simp only [ho]
  split at h
  ·rename_i q hc
   simp only [Y.req_is] at h
   obtain ⟨h1, h2⟩ := h
   cases z with
   | true =>
    simp only [if_true] at h1 h2
    subst h1
    simp only [hc]
    exact yval_is h2 (fun v hv => by simpa only [Y.of_is] using hv)
   | false =>
    simp only [Bool.false_eq_true, if_false, Bool.not_eq_true'] at h1 h2
    subst h1
    simp only [hc]
    exact yval_is h2 (fun v hv => by simpa only [Y.of_is] using hv)
  ·cases h
 ·rename_i ho
  unfold xop; simp only [ho, b1]
  split at h
  ·rename_i hv; simp only [hv]; exact yvals_is h (fun _ => ynewVar_is)
  ·cases h
 ·rename_i ho
  unfold xop; simp only [ho, b1]
  split at h
  ·rename_i hv; simp only [hv]; exact yvals_is h (fun _ => ynewVar_is)
  ·cases h
 ·rename_i ho
  unfold xop; simp only [ho, b1]
  split at h
  ·rename_i hv; simp only [hv]; exact yvals_is h (fun _ => ybuildSlice_is)
  ·cases h
 ·rename_i ho
  unfold xop; simp only [ho, b1]
  split at h
  ·rename_i hv; simp only [hv]; exact yval_is h (fun _ => yload_is)
  ·cases h
 ·rename_i ho
  unfold xop; simp only [ho, b1]
  split at h
  ·rename_i hv hu; simp only [hv, hu]; exact yskips_is h (fun _ => ystore_is)
  ·cases h
 ·rename_i ho
  unfold xop; simp only [ho, b1]
  split at h
  ·rename_i hv hu; simp only [hv, hu]; exact yval_is h (fun _ => ybin_is)
  ·cases h
 ·rename_i ho
  unfold xop; simp only [ho, b1]
  split at h
  ·rename_i hv; simp only [hv]; exact yvals_is h (fun _ => yconvert_is)
  ·cases h
 ·rename_i ho
  unfold xop; simp only [ho, b1]
  split at h
  ·rename_i hv hu; simp only [hv, hu]; exact yvals_is h (fun _ => ymakeSlice_is)
  ·cases h
 ·rename_i ho
  unfold xop; simp only [ho, b1]
  split at h
  ·rename_i hv hl hh hm; simp only [hv, hl, hh, hm]; exact yval_is h (fun _ => yslice_is)
  ·cases h
 ·rename_i ho
  unfold xop; simp only [ho, b1]
  split at h
  ·rename_i hv hu; simp only [hv, hu]; exact yval_is h (fun _ => yindexAddr_is)
  ·cases h
 ·rename_i ho
  unfold xop; simp only [ho, b1]
  split at h
  ·rename_i hv hu; simp only [hv, hu]; exact yval_is h (fun _ => yindex_is)
  ·cases h
 ·rename_i ho
  split at h
  ·cases h
  ·rename_i args ha
   split at h
   ·rename_i b hc
    unfold xop
    simp only [ho, ha, hc]
    exact yvals_is h (fun _ => ybuiltin_is)
   ·simp only [Y.of_is] at h; exact h
 ·simp only [Y.of_is] at h; exact h
end
end Go.Xe
namespace Go.Xe
open Go
abbrev Path := List Bool
abbrev YCall := FuncId → List Value → St → Path → Y ((Value × St) × Path)
def ywanted (ops : Array Oper) (a : XAct) (o : Oper) (p : Path) : Y (Bool × Path) :=
 match o.guard with
 | none => .pure (true, p)
 | some (j, want) => match ops[j]? with
  | some oj => match oj.dst with
   | some d => match slot a d with
    | some (.bool b) => match p with
     | w :: p' => .req (if want then (if w then b else !b) else (if w then !b else b)) (.pure (w, p'))
     | [] => none
    | _ => none
   | none => none
  | none => none
section
variable (P : Program)
def needsZF : Op → Bool
 | .pick .. => true
 | .call c => match c.callee with
  | .builtin .append | .builtin .copy => true
  | _ => false
 | .convert s d _ => match P.underlying s, P.underlying d with
  | some (.slice _), some .string => true
  | _, _ => false
 | _ => false
def yzf (op : Op) (p : Path) : Option ((Bool × Bool) × Path) :=
 if needsZF P op then match p with
  | z :: f :: p' => some ((z, f), p')
  | _ => none
 else some ((false, false), p)
variable (okF : FuncId → Bool) (call : YCall)
def yrun (S : St) (ρ : Operand → Option Value) (o : Oper) (p : Path) : Y ((Value × St) × Path) :=
 match yzf P o.op p with
 | none => none
 | some (zf, p1) => (yop P okF S ρ o zf.1 zf.2).bind fun r => match r.1 with
  | .val v => .pure ((v, r.2), p1)
  | .skip => .pure ((undefX, r.2), p1)
  | .enter g args => call g args r.2 p1
def yops (ops : Array Oper) : List Oper → XAct → St → Path → Y ((XAct × St) × Path)
 | [], a, S, p => .pure ((a, S), p)
 | o :: r, a, S, p => (ywanted ops a o p).bind fun w => match w.1 with
  | false => yops ops r (putX a o.dst undefX) S w.2
  | true => (yrun P okF call S (evalX S a) o w.2).bind fun x => yops ops r (putX a o.dst x.1.1) x.1.2 x.2
def yal (ρ : Operand → Option Value) (op : Op) : Y (Ent × (Nat → Value)) :=
 match op with
 | .makeSlice t l c => match ρ l, ρ c with
  | some (.int _ len), some (.int _ cap) =>
   match P.underlying t with
   | some (.slice elem) => match sizeT P elem, bytesT P elem, zeroT P elem with
    | some size, some bytes, some z =>
     if size = 0 ∨ z.cells.size ≠ size ∨ z.cells.toList.all plain1 = false then none else
     .req (decide (IntKind.i64.wrap len = len)) (.req (decide (IntKind.i64.wrap cap = cap)) (.req (decide (0 ≤ len)) (.req (decide (len ≤ cap)) (.req (decide (bytes * cap.toNat ≤ 281474976710656))
      (.pure (.row (zerosL z.cells.toList cap.toNat) size false, fun i => .slice (some ⟨i, 0, none⟩) len.toNat cap.toNat))))))
    | _, _, _ => none
   | _ => none
  | _, _ => none
 | op => .of (xal P ρ op)
variable (ops : Array Oper) (ms : List Nat) (base : Nat)
def ystepD (i : Nat) (o : Oper) (d : Dr) (zs : List (Bool × Bool)) (p : Path) : Y ((Dr × List (Bool × Bool)) × Path) :=
 (ywanted ops d.a o p).bind fun w => match w.1 with
 | false => .pure (({ d with a := putX d.a o.dst undefX }, zs), w.2)
 | true =>
  if isA o.op then (yal P (evalR d.V d.a (o.looksAt ops)) o.op).bind fun es => .pure (({ d with a := putX d.a o.dst (es.2 (base + i)), as := d.as ++ [(i, es.1)] }, zs), w.2)
  else if isQ P o.op then match yzf P o.op w.2 with
   | none => none
   | some (zf, p1) => (yop P okF (addAs d.V base (fun x => (ms.getD i 0).testBit x && !d.ab.testBit x) d.as) (evalR d.V d.a (o.looksAt ops)) o zf.1 zf.2).bind fun r => match r.1 with
    | .val v => .pure (({ d with a := putX d.a o.dst v, qs := d.qs ++ [⟨i, o, d.a, v⟩] }, zs ++ [zf]), p1)
    | _ => none
  else if d.ws.all (fun w => (ms.getD i 0).testBit w) then
   (yrun P okF call (addAs d.V base (fun x => (ms.getD i 0).testBit x && !d.ab.testBit x) d.as) (evalR d.V d.a (o.looksAt ops)) o w.2).bind fun x =>
    .pure (({ a := putX d.a o.dst x.1.1, V := x.1.2, hist := d.hist ++ [(x.1.2, d.ab ||| ms.getD i 0)], ws := d.ws ++ [i], as := d.as, ab := d.ab ||| ms.getD i 0, qs := d.qs }, zs), x.2)
  else none
def yrunD : List Oper → Nat → Dr → List (Bool × Bool) → Path → Y ((Dr × List (Bool × Bool)) × Path)
 | [], _, d, zs, p => .pure ((d, zs), p)
 | o :: r, i, d, zs, p => (ystepD P okF call ops ms base i o d zs p).bind fun x => yrunD r (i + 1) x.1.1 x.1.2 x.2
def ycheckQ (d : Dr) (q : Qr) (zf : Bool × Bool) : List (St × Nat) → Nat → Y Unit
 | [], _ => .pure ()
 | (V, ab) :: r, j =>
  if mayAt ms d.ws q.i j then
   (yop P okF (addAs V base (fun x => (ms.getD q.i 0).testBit x && !ab.testBit x) d.as) (evalR V q.a (q.o.looksAt ops)) q.o zf.1 zf.2).bind fun x => match x.1 with
   | .val u => .req (same u q.v) (ycheckQ d q zf r (j + 1))
   | _ => none
  else ycheckQ d q zf r (j + 1)
def ycheckQs (d : Dr) : List Qr → List (Bool × Bool) → Y Unit
 | [], _ => .pure ()
 | q :: r, z :: zs => (ycheckQ P okF ops ms base d q z d.hist 0).bind fun _ => ycheckQs d r zs
 | _ :: _, [] => none
def ydraw (a : XAct) (S : St) (p : Path) : Y ((XAct × St) × Path) :=
 let V0 : St := { S with next := S.next + ops.toList.length }
 (yrunD P okF call ops (masks ops.toList) S.next ops.toList 0 { a := a, V := V0, hist := [(V0, 0)], ws := [], as := [], ab := 0, qs := [] } [] p).bind fun x =>
  if x.1.1.ws.isEmpty then .pure ((x.1.1.a, addAs x.1.1.V S.next (fun y => !x.1.1.ab.testBit y) x.1.1.as), x.2)
  else (ycheckQs P okF ops (masks ops.toList) S.next x.1.1 x.1.1.qs x.1.2).bind fun _ => .pure ((x.1.1.a, addAs x.1.1.V S.next (fun y => !x.1.1.ab.testBit y) x.1.1.as), x.2)
end
abbrev YOut := Y ((XE × XAct × St) × Path)
section
variable (P : Program) (okF : FuncId → Bool) (call : YCall) (fg : Nat → Option Nat)
def ycode : Nat → Code → XAct → St → Path → YOut
 | 0, _, _, _, _ => none
 | n + 1, c, a, S, p => match c with
  | .skip => .pure ((.normal, a, S), p)
  | .region id ops false => (yops P okF call ops ops.toList a S p).bind fun x => .pure ((.normal, drop (fg id) x.1.1, x.1.2), x.2)
  | .region id ops true => (ydraw P okF call ops a S p).bind fun x => .pure ((.normal, drop (fg id) x.1.1, x.1.2), x.2)
  | .seq x y => (ycode n x a S p).bind fun r => match r.1.1 with
   | .normal => ycode n y r.1.2.1 r.1.2.2 r.2
   | _ => .pure r
  | .cond c x y => match evalX S a c, p with
   | some (.bool b), w :: p' => .req (if w then b else !b) (if w then ycode n x a S p' else ycode n y a S p')
   | _, _ => none
  | .block id c => (ycode n c a S p).bind fun r => match r.1.1 with
   | .exit i => if i = id then .pure ((.normal, r.1.2), r.2) else .pure r
   | _ => .pure r
  | .loop c => (ycode n c a S p).bind fun r => match r.1.1 with
   | .normal => ycode n (.loop c) r.1.2.1 r.1.2.2 r.2
   | _ => .pure r
  | .exit id => .pure ((.exit id, a, S), p)
  | .ret => .pure ((.ret, a, S), p)
  | .label _ => .pure ((.normal, a, S), p)
  | _ => none
def ybody (n : Nat) (fn : Func) (c : Code) (args : List Value) (S : St) (p : Path) : Y ((Value × St) × Path) :=
 (ycode P okF call fg n c (startX fn args) S p).bind fun r => match r.1.1 with
 | .exit _ => none
 | _ => match xres P fn r.1.2.1 r.1.2.2 with
  | some v => .pure ((v, r.1.2.2), r.2)
  | none => none
end
abbrev Orc := FuncId → Option (List Value → St → Y (Value × St))
abbrev Keep := FuncId → Nat → Option Nat
def ygo (P : Program) (okF : FuncId → Bool) (orc : Orc) (kp : Keep) : Nat → YCall
 | 0, _, _, _, _ => none
 | n + 1, f, args, S, p => match orc f with
  | some F => (F args S).bind fun r => .pure (r, p)
  | none => if okF f then match P.funcs[f]? with
   | some fn => match fn.body with
    | some c => ybody P okF (ygo P okF orc kp n) (kp f) n fn c args S p
    | none => none
   | none => none
   else none
def yes {β : Type} (x : Y β) : Option β :=
 match x with
 | some (true, b) => some b
 | _ => none
def xgoO (P : Program) (okF : FuncId → Bool) (orc : Orc) (kp : Keep) : Nat → XCall
 | 0, _, _, _ => none
 | n + 1, f, args, S => match orc f with
  | some F => yes (F args S)
  | none => if okF f then match P.funcs[f]? with
   | some fn => match fn.body with
    | some c => xbody P okF (xgoO P okF orc kp n) (kp f) n fn c args S
    | none => none
   | none => none
   else none
section
variable {P : Program} {okF : FuncId → Bool}
theorem ywanted_is {ops : Array Oper} {a : XAct} {o : Oper} {p p' : Path} {w : Bool} (h : ywanted ops a o p = some (true, (w, p'))) : wantedX ops a o = some w := by
 unfold ywanted at h
 unfold wantedX
 split at h
 ·rename_i hg
  simp only [Y.pure_is, Prod.mk.injEq] at h
  rw [hg]; simp only [h.1]
 ·rename_i j want hg
  split at h
  ·rename_i oj hj
   split at h
   ·rename_i d hd
    split at h
    ·rename_i b hs
     split at h
     ·rename_i w0 p0
      simp only [Y.req_is, Y.pure_is, Prod.mk.injEq] at h
      obtain ⟨h1, rfl, rfl⟩ := h
      simp only [hg, hj, hd, hs]
      cases want <;> cases w0 <;> cases b <;> simp at h1 ⊢
     ·cases h
    ·cases h
   ·cases h
  ·cases h
theorem yes_is {β : Type} {x : Y β} {b : β} : yes x = some b ↔ x = some (true, b) := by
 unfold yes
 split
 ·simp
 ·rename_i hno
  constructor
  ·intro h; cases h
  ·intro h; exact absurd h (hno _)
def YX (yc : YCall) (xc : XCall) : Prop := ∀ f args S p r p', yc f args S p = some (true, (r, p')) → xc f args S = some r
variable {yc : YCall} {xc : XCall} {fg : Nat → Option Nat}
theorem yrun_is (hc : YX yc xc) {S : St} {ρ : Operand → Option Value} {o : Oper} {p p' : Path} {r : Value × St} (h : yrun P okF yc S ρ o p = some (true, (r, p'))) : xrun P okF xc S ρ o = some r := by
 unfold yrun at h
 split at h
 ·cases h
 ·simp only [Y.bind_is] at h
  obtain ⟨⟨res, T⟩, h1, h2⟩ := h
  have := yop_is h1
  unfold xrun
  rw [this]
  cases res with
  | val v => simp only [Y.pure_is, Prod.mk.injEq] at h2 ⊢; rw [← h2.1]
  | skip => simp only [Y.pure_is, Prod.mk.injEq] at h2 ⊢; rw [← h2.1]
  | enter g args => exact hc _ _ _ _ _ _ h2
theorem yops_is (hc : YX yc xc) (ops : Array Oper) : ∀ (l : List Oper) (a : XAct) (S : St) (p p' : Path) (r : XAct × St), yops P okF yc ops l a S p = some (true, (r, p')) → xops P okF xc ops l a S = some r
 | [], a, S, p, p', r, h => by
  simp only [yops, Y.pure_is, Prod.mk.injEq] at h
  simp only [xops, h.1]
 | o :: l, a, S, p, p', r, h => by
  simp only [yops, Y.bind_is] at h
  obtain ⟨⟨w, p1⟩, h1, h2⟩ := h
  simp only [xops, ywanted_is h1]
  cases w with
  | false => exact yops_is hc ops l _ _ _ _ _ h2
  | true =>
   simp only [Y.bind_is] at h2
   obtain ⟨⟨⟨v, T⟩, p2⟩, h3, h4⟩ := h2
   simp only [yrun_is hc h3]
   exact yops_is hc ops l _ _ _ _ _ h4
theorem yal_is {ρ : Operand → Option Value} {op : Op} {r : Ent × (Nat → Value)} (h : yal P ρ op = some (true, r)) : xal P ρ op = some r := by
 unfold yal at h
 split at h
 ·unfold xal
  split at h
  ·split at h
   ·split at h
    ·split at h
     ·cases h
     ·rename_i hn
      simp only [not_or] at hn
      simp only [Y.req_is, Y.pure_is, decide_eq_true_eq] at h
      obtain ⟨h1, h2, h3, h4, h5, rfl⟩ := h
      have h6 := capI64 (Int.le_trans h3 h4) h5
      have h7 : ∀ {b : Bool}, ¬ b = false → b = true := by intro b; cases b <;> simp
      have h8 := Classical.not_not.1 hn.2.1
      have h9 := h7 hn.2.2
      simp only [*]
      rw [if_pos ⟨trivial, trivial, trivial, trivial, trivial, hn.1, trivial, trivial⟩]
    ·cases h
   ·cases h
  ·cases h
 ·rw [Y.of_is] at h; exact h
theorem ystepD_is (hc : YX yc xc) {ops : Array Oper} {ms : List Nat} {base i : Nat} {o : Oper} {d d' : Dr} {zs zs' : List (Bool × Bool)} {p p' : Path} (h : ystepD P okF yc ops ms base i o d zs p = some (true, ((d', zs'), p'))) :
 stepD P okF xc ops ms base i o d = some d' := by
 unfold ystepD at h
 simp only [Y.bind_is] at h
 obtain ⟨⟨w, p1⟩, h1, h2⟩ := h
 unfold stepD
 rw [ywanted_is h1]
 cases w with
 | false => simp only [Y.pure_is, Prod.mk.injEq] at h2 ⊢; rw [← h2.1.1]
 | true =>
  simp only at h2 ⊢
  split at h2
  ·rename_i hA
   rw [if_pos hA]
   simp only [Y.bind_is, Y.pure_is, Prod.mk.injEq] at h2
   obtain ⟨es, hx, h3⟩ := h2
   simp only [yal_is hx, h3.1.1]
  ·rename_i hA
   rw [if_neg hA]
   split at h2
   ·rename_i hQ
    rw [if_pos hQ]
    split at h2
    ·cases h2
    ·simp only [Y.bind_is] at h2
     obtain ⟨⟨res, T⟩, h3, h4⟩ := h2
     simp only [yop_is h3]
     cases res with
     | val v => simp only [Y.pure_is, Prod.mk.injEq] at h4 ⊢; rw [← h4.1.1]
     | skip => cases h4
     | enter g args => cases h4
   ·rename_i hQ
    rw [if_neg hQ]
    split at h2
    ·rename_i hall
     rw [if_pos hall]
     simp only [Y.bind_is] at h2
     obtain ⟨⟨⟨v, T⟩, p2⟩, h3, h4⟩ := h2
     simp only [Y.pure_is, Prod.mk.injEq] at h4
     simp only [yrun_is hc h3, h4.1.1]
    ·cases h2
theorem yrunD_is (hc : YX yc xc) {ops : Array Oper} {ms : List Nat} {base : Nat} : ∀ (l : List Oper) (i : Nat) (d d' : Dr) (zs zs' : List (Bool × Bool)) (p p' : Path), yrunD P okF yc ops ms base l i d zs p = some (true, ((d', zs'), p')) →
 runD P okF xc ops ms base l i d = some d'
 | [], i, d, d', zs, zs', p, p', h => by
  simp only [yrunD, Y.pure_is, Prod.mk.injEq] at h
  simp only [runD, h.1.1]
 | o :: l, i, d, d', zs, zs', p, p', h => by
  simp only [yrunD, Y.bind_is] at h
  obtain ⟨⟨⟨d1, zs1⟩, p1⟩, h1, h2⟩ := h
  simp only [runD, ystepD_is hc h1]
  exact yrunD_is hc l _ _ _ _ _ _ _ h2
theorem ycheckQ_is {ops : Array Oper} {ms : List Nat} {base : Nat} {d : Dr} {q : Qr} {zf : Bool × Bool} : ∀ (h : List (St × Nat)) (j : Nat) (u : Unit), ycheckQ P okF ops ms base d q zf h j = some (true, u) → checkQ P okF ops ms base d q h j = true
 | [], j, u, _ => rfl
 | (V, ab) :: r, j, u, h => by
  simp only [ycheckQ] at h
  simp only [checkQ, Bool.and_eq_true]
  split at h
  ·rename_i hm
   rw [if_pos hm]
   simp only [Y.bind_is] at h
   obtain ⟨⟨res, T⟩, h1, h2⟩ := h
   rw [yop_is h1]
   cases res with
   | val v =>
    simp only [Y.req_is] at h2
    exact ⟨h2.1, ycheckQ_is r (j + 1) u h2.2⟩
   | skip => cases h2
   | enter g args => cases h2
  ·rename_i hm
   rw [if_neg hm]
   exact ⟨rfl, ycheckQ_is r (j + 1) u h⟩
theorem ycheckQs_is {ops : Array Oper} {ms : List Nat} {base : Nat} {d : Dr} : ∀ (qs : List Qr) (zs : List (Bool × Bool)) (u : Unit), ycheckQs P okF ops ms base d qs zs = some (true, u) → qs.all (fun q => checkQ P okF ops ms base d q d.hist 0) = true
 | [], _, _, _ => rfl
 | q :: r, z :: zs, u, h => by
  simp only [ycheckQs, Y.bind_is] at h
  obtain ⟨u1, h1, h2⟩ := h
  simp only [List.all_cons, Bool.and_eq_true]
  exact ⟨ycheckQ_is _ _ _ h1, ycheckQs_is r zs u h2⟩
 | _ :: _, [], _, h => by simp [ycheckQs] at h
theorem ydraw_is (hc : YX yc xc) {ops : Array Oper} {a : XAct} {S : St} {p p' : Path} {r : XAct × St} (h : ydraw P okF yc ops a S p = some (true, (r, p'))) : xdraw P okF xc ops a S = some r := by
 unfold ydraw at h
 simp only [Y.bind_is] at h
 obtain ⟨⟨⟨d, zs⟩, p1⟩, h1, h2⟩ := h
 unfold xdraw
 simp only [yrunD_is hc _ _ _ _ _ _ _ _ h1]
 split at h2
 ·rename_i hw
  simp only [Y.pure_is, Prod.mk.injEq] at h2
  simp only [hw, Bool.true_or, if_true, h2.1]
 ·simp only [Y.bind_is] at h2
  obtain ⟨u, h3, h4⟩ := h2
  simp only [Y.pure_is, Prod.mk.injEq] at h4
  simp only [ycheckQs_is _ _ _ h3, Bool.or_true, if_true, h4.1]
theorem ycode_is (hc : YX yc xc) : ∀ (n : Nat) (c : Code) (a : XAct) (S : St) (p p' : Path) (r : XE × XAct × St), ycode P okF yc fg n c a S p = some (true, (r, p')) → xcode P okF xc fg n c a S = some r := by
 intro n
 induction n with
 | zero => intro c a S p p' r h; simp [ycode] at h
 | succ n ih =>
  intro c a S p p' r h
  cases c with
  | skip => simp only [ycode, Y.pure_is, Prod.mk.injEq] at h; simp only [xcode, h.1]
  | region id ops d =>
   cases d with
   | false =>
    simp only [ycode, Y.bind_is, Y.pure_is, Prod.mk.injEq] at h
    obtain ⟨⟨x, p1⟩, h1, h2, _⟩ := h
    simp only [xcode, yops_is hc _ _ _ _ _ _ _ h1, xnorm, ← h2]
   | true =>
    simp only [ycode, Y.bind_is, Y.pure_is, Prod.mk.injEq] at h
    obtain ⟨⟨x, p1⟩, h1, h2, _⟩ := h
    simp only [xcode, ydraw_is hc h1, xnorm, ← h2]
  | seq x y =>
   simp only [ycode, Y.bind_is] at h
   obtain ⟨⟨⟨e, a1, S1⟩, p1⟩, h1, h2⟩ := h
   simp only [xcode, ih _ _ _ _ _ _ h1, XOut.then]
   cases e with
   | normal => exact ih _ _ _ _ _ _ h2
   | exit i => simp only [Y.pure_is, Prod.mk.injEq] at h2; simp only [← h2.1]
   | ret => simp only [Y.pure_is, Prod.mk.injEq] at h2; simp only [← h2.1]
  | cond c x y =>
   simp only [ycode] at h
   simp only [xcode]
   split at h
   ·rename_i b w p1 hb
    simp only [Y.req_is] at h
    obtain ⟨h1, h2⟩ := h
    cases w with
    | true =>
     simp only [if_true] at h1 h2
     subst h1
     simp only [hb]
     exact ih _ _ _ _ _ _ h2
    | false =>
     simp only [Bool.false_eq_true, if_false, Bool.not_eq_true'] at h1 h2
     subst h1
     simp only [hb]
     exact ih _ _ _ _ _ _ h2
   ·cases h
  | block id c =>
   simp only [ycode, Y.bind_is] at h
   obtain ⟨⟨⟨e, a1, S1⟩, p1⟩, h1, h2⟩ := h
   simp only [xcode, ih _ _ _ _ _ _ h1, XOut.block]
   cases e with
   | normal => simp only [Y.pure_is, Prod.mk.injEq] at h2; simp only [h2.1]
   | exit i =>
    simp only at h2
    split at h2
    ·rename_i hi; simp only [Y.pure_is, Prod.mk.injEq] at h2; simp only [hi, if_true, h2.1]
    ·rename_i hi; simp only [Y.pure_is, Prod.mk.injEq] at h2; simp only [hi, if_false, h2.1]
   | ret => simp only [Y.pure_is, Prod.mk.injEq] at h2; simp only [h2.1]
  | loop c =>
   simp only [ycode, Y.bind_is] at h
   obtain ⟨⟨⟨e, a1, S1⟩, p1⟩, h1, h2⟩ := h
   simp only [xcode, ih _ _ _ _ _ _ h1, XOut.then]
   cases e with
   | normal => exact ih _ _ _ _ _ _ h2
   | exit i => simp only [Y.pure_is, Prod.mk.injEq] at h2; simp only [← h2.1]
   | ret => simp only [Y.pure_is, Prod.mk.injEq] at h2; simp only [← h2.1]
  | exit id => simp only [ycode, Y.pure_is, Prod.mk.injEq] at h; simp only [xcode, h.1]
  | ret => simp only [ycode, Y.pure_is, Prod.mk.injEq] at h; simp only [xcode, h.1]
  | label l => simp only [ycode, Y.pure_is, Prod.mk.injEq] at h; simp only [xcode, h.1]
  | rangeFunc _ _ _ _ => simp [ycode] at h
  | scope _ => simp [ycode] at h
  | goto _ => simp [ycode] at h
  | refuse _ => simp [ycode] at h
theorem ybody_is (hc : YX yc xc) {n : Nat} {fn : Func} {c : Code} {args : List Value} {S : St} {p p' : Path} {r : Value × St} (h : ybody P okF yc fg n fn c args S p = some (true, (r, p'))) : xbody P okF xc fg n fn c args S = some r := by
 unfold ybody at h
 simp only [Y.bind_is] at h
 obtain ⟨⟨⟨e, a1, S1⟩, p1⟩, h1, h2⟩ := h
 unfold xbody
 rw [ycode_is hc _ _ _ _ _ _ _ h1]
 cases e with
 | exit i => cases h2
 | normal =>
  simp only at h2 ⊢
  split at h2
  ·rename_i v hv; simp only [Y.pure_is, Prod.mk.injEq] at h2; simp only [hv, h2.1]
  ·cases h2
 | ret =>
  simp only at h2 ⊢
  split at h2
  ·rename_i v hv; simp only [Y.pure_is, Prod.mk.injEq] at h2; simp only [hv, h2.1]
  ·cases h2
theorem ygo_is (orc : Orc) (kp : Keep) : ∀ n, YX (ygo P okF orc kp n) (xgoO P okF orc kp n)
 | 0 => fun f args S p r p' h => by simp [ygo] at h
 | n + 1 => fun f args S p r p' h => by
  cases hO : orc f with
  | some F =>
   simp only [ygo, hO, Y.bind_is, Y.pure_is, Prod.mk.injEq] at h
   obtain ⟨x, h1, h2, _⟩ := h
   simp only [xgoO, hO]
   rw [yes_is, h1, h2]
  | none =>
   simp only [ygo, hO] at h
   simp only [xgoO, hO]
   split at h
   ·rename_i hok
    rw [if_pos hok]
    split at h
    ·rename_i fn hf
     split at h
     ·rename_i c hb
      exact ybody_is (ygo_is orc kp n) h
     ·cases h
    ·cases h
   ·cases h
def OrcSound (P : Program) (orc : Orc) : Prop :=
 ∀ f F, orc f = some F → ∀ args S v S', F args S = some (true, (v, S')) → ∀ α w (args' : Array Value), Rel α S w → LRel α args args'.toList →
  Calls P f args' w fun e w' => ∃ β v', e = .returned v' ∧ Next α S w β S' w' ∧ VRel β v v'
def GoodF (P : Program) (okF : FuncId → Bool) : Prop := ∀ (f : Nat) fn c, okF f = true → P.funcs[f]? = some fn → fn.body = some c → goodCode c = true
theorem xgoO_sound (hm : P.follows .mixedOrders = true) (hF : OkF P okF) (hg : GoodF P okF) {orc : Orc} (ho : OrcSound P orc) (kp : Keep) : ∀ n, CallSound P (xgoO P okF orc kp n)
 | 0 => fun f args S v S' h => by simp [xgoO] at h
 | n + 1 => fun f args S v S' hx α w args' h hargs => by
  simp only [xgoO] at hx
  split at hx
  ·rename_i F hf
   rw [yes_is] at hx
   exact ho f F hf args S v S' hx α w args' h hargs
  ·split at hx
   ·rename_i hok
    split at hx
    ·rename_i fn hf
     split at hx
     ·rename_i c hb
      exact xbody_sound hm hF (xgoO_sound hm hF hg ho kp n) hf hb (hg f fn c hok hf hb) hx h hargs
     ·cases hx
    ·cases hx
   ·cases hx
end
structure Emb (π : Nat → Nat) (C S : St) : Prop where
 inj : ∀ i j, i < C.next → j < C.next → π i = π j → i = j
 lt : ∀ i, i < C.next → π i < S.next
 new : ∀ i, C.next ≤ i → π i = S.next + (i - C.next)
 glob : C.glob = 0
def RenV (π : Nat → Nat) (a b : Value) : Prop := ∀ (γ : Place) v', VRel (fun i => γ (π i)) a v' ↔ VRel γ b v'
structure RenE (π : Nat → Nat) (a b : Ent) : Prop where
 rel : ∀ (γ : Place) w l, EntRel (fun i => γ (π i)) w l a ↔ EntRel γ w l b
 ro : a.ro = b.ro
variable {π : Nat → Nat} {C C' S S' : St} {α γ : Place} {w w' : World}
theorem Rel.small (h : Rel α S w) (e : Emb π C S) (hc : ∀ i x, C.heap.get i = some x → i < C.next ∧ ∃ y, S.heap.get (π i) = some y ∧ RenE π x y) : Rel (fun i => α (π i)) C w := by
 refine ⟨fun i x hi => ?_, fun i j x y l m hij hi hj hro hl hm => ?_, fun i l hl => ?_, fun i l hl => h.size _ l hl, fun i l hi hl => ?_, by rw [e.glob]; exact Nat.zero_le _⟩
 ·obtain ⟨_, y, hy, hr⟩ := hc i x hi
  obtain ⟨l, hl, hent⟩ := h.ent _ y hy
  exact ⟨l, hl, (hr.rel α w l).2 hent⟩
 ·obtain ⟨hi1, x', hx', hrx⟩ := hc i x hi
  obtain ⟨hj1, y', hy', hry⟩ := hc j y hj
  refine h.apart (π i) (π j) x' y' l m (fun he => hij (e.inj i j hi1 hj1 he)) hx' hy' ?_ hl hm
  rw [← hrx.ro, ← hry.ro]; exact hro
 ·rcases Nat.lt_or_ge i C.next with hlt | hge
  ·exact hlt
  ·have := h.fresh _ l hl
   rw [e.new i hge] at this
   omega
 ·rw [e.glob] at hi; omega
theorem Next.large (h : Rel α S w) (e : Emb π C S) (hc : ∀ i x, C.heap.get i = some x → i < C.next ∧ ∃ y, S.heap.get (π i) = some y ∧ RenE π x y) {βc : Place} (n : Next (fun i => α (π i)) C w βc C' w')
 (hn : S'.next = S.next + (C'.next - C.next)) (hg : S'.glob = S.glob)
 (hu : ∀ k y, S'.heap.get k = some y → (∃ i x, k = π i ∧ C'.heap.get i = some x ∧ RenE π x y ∧ (y.ro = true → S.heap.get k = some y)) ∨ (S.heap.get k = some y ∧ k < S.next ∧ ∀ i x, C.heap.get i = some x → k ≠ π i)) :
 ∃ β : Place, Next α S w β S' w' ∧ βc = fun i => β (π i) := by
 let β : Place := fun k => if k < S.next then α k else βc (C.next + (k - S.next))
 have hβlt : ∀ k, k < S.next → β k = α k := fun k hk => by simp only [β, if_pos hk]
 have hβ : βc = fun i => β (π i) := by
  funext i
  rcases Nat.lt_or_ge i C.next with hlt | hge
  ·rw [n.old i hlt, hβlt _ (e.lt i hlt)]
  ·simp only [β]
   rw [e.new i hge, if_neg (by omega)]
   congr 1
   omega
 have hext : α.Ext β := fun k l hk => by rw [hβlt k (h.fresh k l hk)]; exact hk
 have hnx := n.next
 have stay : ∀ k y l, S.heap.get k = some y → (∀ i x, C.heap.get i = some x → k ≠ π i) → α k = some l → w'.heap[l.blk]? = w.heap[l.blk]? := by
  intro k y l hk hno hl
  refine n.frame.block _ (h.size k l hl) (fun i x m hi hro hm => ?_)
  obtain ⟨hi1, x', hx', hr⟩ := hc i x hi
  exact h.apart (π i) k x' y m l (fun he => hno i x hi he.symm) hx' hk (.inl (by rw [← hr.ro]; exact hro)) hm hl
 have far : ∀ i x x' m k y l, C'.heap.get i = some x → RenE π x x' → (x'.ro = true → S.heap.get (π i) = some x') → S.heap.get k = some y → (∀ j z, C.heap.get j = some z → k ≠ π j) → (x'.ro = false ∨ y.ro = false) → β (π i) = some m → α k = some l → m.blk ≠ l.blk := by
  intro i x x' m k y l hi hr hold hk hno hro hm hl
  have hlt := h.size k l hl
  have hmc : βc i = some m := by rw [hβ]; exact hm
  cases hx : x.ro with
  | false =>
   rcases n.kept i x m hi hx hmc with h1 | ⟨j, z, q, hj, hzr, hq, hqm⟩
   ·omega
   ·obtain ⟨hj1, z', hz', hrz⟩ := hc j z hj
    have := h.apart (π j) k z' y q l (fun he => hno j z hj he.symm) hz' hk (.inl (by rw [← hrz.ro]; exact hzr)) hq hl
    omega
  | true =>
   have hxr : x'.ro = true := by rw [← hr.ro]; exact hx
   have hyr : y.ro = false := by rcases hro with hro | hro; (rw [hxr] at hro; cases hro); exact hro
   have hCi := n.ros i x hi hx
   obtain ⟨hi1, _⟩ := hc i x hCi
   have hm' : α (π i) = some m := by rw [← hβlt _ (e.lt i hi1)]; exact hm
   exact h.apart (π i) k x' y m l (fun he => hno i x hCi he.symm) (hold hxr) hk (.inr hyr) hm' hl
 refine ⟨β, ⟨hext, ⟨?_, ?_, ?_, ?_, ?_, ?_⟩, ⟨n.frame.size, ?_, n.frame.os, n.frame.tape, n.frame.output⟩, ?_, by omega, hg, fun i hi => hβlt i hi, ?_, ?_⟩, hβ⟩
 ·intro k y hk
  rcases hu k y hk with ⟨i, x, rfl, hi, hr, _⟩ | ⟨h1, h2, h3⟩
  ·obtain ⟨l, hl, hent⟩ := n.rel.ent i x hi
   rw [hβ] at hl hent
   exact ⟨l, hl, (hr.rel β w' l).1 hent⟩
  ·obtain ⟨l, hl, hent⟩ := h.ent k y h1
   exact ⟨l, hext _ _ hl, (hent.mono hext).of_block (stay k y l h1 h3 hl)⟩
 ·intro k k' y y' l m hkk hk hk' hro hl hm
  rcases hu k y hk with ⟨i, x, rfl, hi, hr, hold⟩ | ⟨h1, h2, h3⟩
  ·rcases hu k' y' hk' with ⟨j, z, rfl, hj, hrz, hold'⟩ | ⟨g1, g2, g3⟩
   ·refine n.rel.apart i j x z l m (fun he => hkk (by rw [he])) hi hj (by rw [hr.ro, hrz.ro]; exact hro) (by rw [hβ]; exact hl) (by rw [hβ]; exact hm)
   ·rw [hβlt _ g2] at hm
    exact far i x y l k' y' m hi hr hold g1 g3 hro hl hm
  ·rw [hβlt _ h2] at hl
   rcases hu k' y' hk' with ⟨j, z, rfl, hj, hrz, hold'⟩ | ⟨g1, g2, g3⟩
   ·exact Ne.symm (far j z y' m k y l hj hrz hold' h1 h3 hro.symm hm hl)
   ·rw [hβlt _ g2] at hm
    exact h.apart k k' y y' l m hkk h1 g1 hro hl hm
 ·intro k l hl
  rw [hn]
  rcases Nat.lt_or_ge k S.next with hlt | hge
  ·omega
  ·simp only [β, if_neg (Nat.not_lt.2 hge)] at hl
   have := n.rel.fresh _ l hl
   omega
 ·intro k l hl
  rcases Nat.lt_or_ge k S.next with hlt | hge
  ·rw [hβlt _ hlt] at hl
   exact Nat.lt_of_lt_of_le (h.size k l hl) n.frame.size
  ·simp only [β, if_neg (Nat.not_lt.2 hge)] at hl
   exact n.rel.size _ l hl
 ·intro k l hk hl
  rw [hg] at hk
  rw [hβlt _ (Nat.lt_of_lt_of_le hk h.gle)] at hl
  exact h.glob k l hk hl
 ·rw [hg, hn]; have := h.gle; omega
 ·intro b hb hne
  refine n.frame.block b hb (fun i x l hi hro hl => ?_)
  obtain ⟨hi1, y, hy, hr⟩ := hc i x hi
  exact hne (π i) y l hy (by rw [← hr.ro]; exact hro) hl
 ·intro k y m hk hro hm
  rcases hu k y hk with ⟨i, x, rfl, hi, hr, _⟩ | ⟨h1, h2, h3⟩
  ·rcases n.kept i x m hi (by rw [hr.ro]; exact hro) (by rw [hβ]; exact hm) with h1 | ⟨j, z, q, hj, hzr, hq, hqm⟩
   ·exact .inl h1
   ·obtain ⟨hj1, z', hz', hrz⟩ := hc j z hj
    exact .inr ⟨π j, z', q, hz', by rw [← hrz.ro]; exact hzr, hq, hqm⟩
  ·rw [hβlt _ h2] at hm
   exact .inr ⟨k, y, m, h1, hro, hm, rfl⟩
 ·intro k y hk hlt
  rcases hu k y hk with ⟨i, x, rfl, hi, hr, _⟩ | ⟨h1, h2, h3⟩
  ·have hilt : i < C.next := by
    rcases Nat.lt_or_ge i C.next with h1 | h1
    ·exact h1
    ·rw [e.new i h1] at hlt; omega
   obtain ⟨z, hz⟩ := n.ids i x hi hilt
   obtain ⟨_, z', hz', _⟩ := hc i z hz
   exact ⟨z', hz'⟩
  ·exact ⟨y, h1⟩
 ·intro k y hk hro
  rcases hu k y hk with ⟨i, x, rfl, hi, hr, hold⟩ | ⟨h1, h2, h3⟩
  ·exact hold hro
  ·exact h1
theorem RenV.int (k : IntKind) (n : Int) : RenV π (.int k n) (.int k n) := fun γ v' => ⟨fun h => by cases h; exact .int _ _, fun h => by cases h; exact .int _ _⟩
theorem RenV.bool (b : Bool) : RenV π (.bool b) (.bool b) := fun γ v' => ⟨fun h => by cases h; exact .bool _, fun h => by cases h; exact .bool _⟩
theorem RenV.string (s : ByteArray) : RenV π (.string s) (.string s) := fun γ v' => ⟨fun h => by cases h; exact .string _, fun h => by cases h; exact .string _⟩
theorem RenV.ptr (i o : Nat) : RenV π (.pointer (some ⟨i, o, none⟩)) (.pointer (some ⟨π i, o, none⟩)) := fun γ v' => ⟨fun h => by cases h; exact .ptr _ _ _ ‹_›, fun h => by cases h; exact .ptr _ _ _ ‹_›⟩
theorem RenV.slice (i o len cap : Nat) : RenV π (.slice (some ⟨i, o, none⟩) len cap) (.slice (some ⟨π i, o, none⟩) len cap) := fun γ v' =>
 ⟨fun h => by cases h with
  | slice i o len cap cap' l h hl hc hr => exact .slice _ _ _ _ _ l h hl hc hr
  | sliceEnd a a' => exact .sliceEnd _ _,
  fun h => by cases h with
   | slice i o len cap cap' l h hl hc hr => exact .slice _ _ _ _ _ l h hl hc hr
   | sliceEnd a a' => exact .sliceEnd _ _⟩
theorem RenV.plain1 {v : Value} (h : plain1 v = true) : RenV π v v := fun γ v' =>
 ⟨fun r => by rw [plain_eq r h]; exact plain1_rel γ v h, fun r => by rw [plain_eq r h]; exact plain1_rel _ v h⟩
def RenL (π : Nat → Nat) (l l' : List Value) : Prop := l.length = l'.length ∧ ∀ (i : Nat) a b, l[i]? = some a → l'[i]? = some b → RenV π a b
theorem RenL.nil : RenL π [] [] := ⟨rfl, fun i a b h => by simp at h⟩
theorem RenL.cons {a b : Value} {l l' : List Value} (h : RenV π a b) (r : RenL π l l') : RenL π (a :: l) (b :: l') := by
 refine ⟨by simp [r.1], fun i x y hx hy => ?_⟩
 cases i with
 | zero => simp at hx hy; subst hx; subst hy; exact h
 | succ i => exact r.2 i x y (by simpa using hx) (by simpa using hy)
theorem RenL.append {a a' b b' : List Value} (r : RenL π a a') (s : RenL π b b') : RenL π (a ++ b) (a' ++ b') := by
 refine ⟨by simp [r.1, s.1], fun i x y hx hy => ?_⟩
 rcases Nat.lt_or_ge i a.length with h | h
 ·rw [List.getElem?_append_left h] at hx
  rw [List.getElem?_append_left (by rw [← r.1]; exact h)] at hy
  exact r.2 i x y hx hy
 ·rw [List.getElem?_append_right h] at hx
  rw [List.getElem?_append_right (by rw [← r.1]; exact h)] at hy
  rw [← r.1] at hy
  exact s.2 _ x y hx hy
theorem RenL.plain {l : List Value} (h : l.all Go.Xe.plain1 = true) : RenL π l l :=
 ⟨rfl, fun i a b ha hb => by rw [ha] at hb; cases hb; exact .plain1 (List.all_eq_true.1 h a (List.mem_of_getElem? ha))⟩
theorem RenL.lrel {l l' : List Value} (r : RenL π l l') (γ : Place) (vs : List Value) : LRel (fun i => γ (π i)) l vs ↔ LRel γ l' vs := by
 constructor
 ·rintro ⟨h1, h2⟩
  refine ⟨by rw [← r.1, h1], fun i v v' hv hv' => ?_⟩
  have hi : i < l.length := by rw [r.1]; exact (List.getElem?_eq_some_iff.1 hv).1
  exact (r.2 i _ v (List.getElem?_eq_getElem hi) hv γ v').1 (h2 i _ v' (List.getElem?_eq_getElem hi) hv')
 ·rintro ⟨h1, h2⟩
  refine ⟨by rw [r.1, h1], fun i v v' hv hv' => ?_⟩
  have hi : i < l'.length := by rw [← r.1]; exact (List.getElem?_eq_some_iff.1 hv).1
  exact (r.2 i v _ hv (List.getElem?_eq_getElem hi) γ v').2 (h2 i _ v' (List.getElem?_eq_getElem hi) hv')
theorem arr_get {a : Array Value} {i : Nat} {v : Value} : a[i]? = some v ↔ a.toList[i]? = some v := by rw [Array.getElem?_toList]
theorem RenV.tuple {a b : Array Value} (r : RenL π a.toList b.toList) : RenV π (.tuple a) (.tuple b) := fun γ v' =>
 ⟨fun h => by
  cases h with
  | tuple _ c hs hr =>
   have := (r.lrel γ c.toList).1 ⟨by simpa using hs, fun i v v' e e' => hr i v v' (arr_get.2 e) (arr_get.2 e')⟩
   exact .tuple _ _ (by have := this.1; simpa using this) (fun i v v' e e' => this.2 i v v' (arr_get.1 e) (arr_get.1 e')),
  fun h => by
   cases h with
   | tuple _ c hs hr =>
    have := (r.lrel γ c.toList).2 ⟨by simpa using hs, fun i v v' e e' => hr i v v' (arr_get.2 e) (arr_get.2 e')⟩
    exact .tuple _ _ (by have := this.1; simpa using this) (fun i v v' e e' => this.2 i v v' (arr_get.1 e) (arr_get.1 e'))⟩
theorem RenV.agg {a b : Array Value} (r : RenL π a.toList b.toList) : RenV π (.agg a) (.agg b) := fun γ v' =>
 ⟨fun h => by
  cases h with
  | agg _ c hs hr =>
   have := (r.lrel γ c.toList).1 ⟨by simpa using hs, fun i v v' e e' => hr i v v' (arr_get.2 e) (arr_get.2 e')⟩
   exact .agg _ _ (by have := this.1; simpa using this) (fun i v v' e e' => this.2 i v v' (arr_get.1 e) (arr_get.1 e')),
  fun h => by
   cases h with
   | agg _ c hs hr =>
    have := (r.lrel γ c.toList).2 ⟨by simpa using hs, fun i v v' e e' => hr i v v' (arr_get.2 e) (arr_get.2 e')⟩
    exact .agg _ _ (by have := this.1; simpa using this) (fun i v v' e e' => this.2 i v v' (arr_get.1 e) (arr_get.1 e'))⟩
theorem RenE.row {cs cs' : List Value} {esz : Nat} {ro : Bool} (r : RenL π cs cs') : RenE π (.row cs esz ro) (.row cs' esz ro) := by
 refine ⟨fun γ w l => ⟨?_, ?_⟩, rfl⟩
 ·rintro ⟨h0, c, t, fr, h1, h2, h3, h4, h5⟩
  refine ⟨h0, c, t, fr, h1, h2, by rw [← r.1]; exact h3, h4, fun i v hv => ?_⟩
  have hi : i < cs.length := by rw [r.1]; exact (List.getElem?_eq_some_iff.1 hv).1
  obtain ⟨v', g1, g2⟩ := h5 i _ (List.getElem?_eq_getElem hi)
  exact ⟨v', g1, (r.2 i _ v (List.getElem?_eq_getElem hi) hv γ v').1 g2⟩
 ·rintro ⟨h0, c, t, fr, h1, h2, h3, h4, h5⟩
  refine ⟨h0, c, t, fr, h1, h2, by rw [r.1]; exact h3, h4, fun i v hv => ?_⟩
  have hi : i < cs'.length := by rw [← r.1]; exact (List.getElem?_eq_some_iff.1 hv).1
  obtain ⟨v', g1, g2⟩ := h5 i _ (List.getElem?_eq_getElem hi)
  exact ⟨v', g1, (r.2 i v _ hv (List.getElem?_eq_getElem hi) γ v').2 g2⟩
theorem RenE.plain {cs : List Value} {esz : Nat} {ro : Bool} (h : cs.all Go.Xe.plain1 = true) : RenE π (.row cs esz ro) (.row cs esz ro) := .row (.plain h)
end Go.Xe
namespace Go.Xe
open Go
section
variable {P : Program} {okF : FuncId → Bool} {call : XCall} {fg : Nat → Option Nat}
theorem xcode_mono : ∀ (n : Nat) (c : Code) (a : XAct) (S : St) (r : XE × XAct × St), xcode P okF call fg n c a S = some r → ∀ m, n ≤ m → xcode P okF call fg m c a S = some r := by
 intro n
 induction n with
 | zero => intro c a S r h; simp [xcode] at h
 | succ n ih =>
  intro c a S r h m hm
  obtain ⟨m, rfl⟩ : ∃ k, m = k + 1 := ⟨m - 1, by omega⟩
  have hm : n ≤ m := by omega
  cases c with
  | seq x y =>
   simp only [xcode] at h ⊢
   cases hx : xcode P okF call fg n x a S with
   | none => rw [hx] at h; cases h
   | some q =>
    rw [ih _ _ _ _ hx m hm]
    rw [hx] at h
    obtain ⟨e, a1, S1⟩ := q
    cases e with
    | normal => exact ih _ _ _ _ h m hm
    | exit i => exact h
    | ret => exact h
  | cond c x y =>
   simp only [xcode] at h ⊢
   split at h
   ·exact ih _ _ _ _ h m hm
   ·exact ih _ _ _ _ h m hm
   ·cases h
  | block id c =>
   simp only [xcode] at h ⊢
   cases hx : xcode P okF call fg n c a S with
   | none => rw [hx] at h; cases h
   | some q => rw [ih _ _ _ _ hx m hm]; rw [hx] at h; exact h
  | loop c =>
   simp only [xcode] at h ⊢
   cases hx : xcode P okF call fg n c a S with
   | none => rw [hx] at h; cases h
   | some q =>
    rw [ih _ _ _ _ hx m hm]
    rw [hx] at h
    obtain ⟨e, a1, S1⟩ := q
    cases e with
    | normal => exact ih _ _ _ _ h m hm
    | exit i => exact h
    | ret => exact h
  | skip => exact h
  | region id ops d => cases d <;> exact h
  | exit id => exact h
  | ret => exact h
  | label l => exact h
  | rangeFunc _ _ _ _ => simp [xcode] at h
  | scope _ => simp [xcode] at h
  | goto _ => simp [xcode] at h
  | refuse _ => simp [xcode] at h
variable (P okF call fg)
def Runs (c : Code) (a : XAct) (S : St) (e : XE) (a' : XAct) (S' : St) : Prop := ∃ n, xcode P okF call fg n c a S = some (e, a', S')
variable {P okF call fg}
variable {c x y : Code} {a a1 a' : XAct} {S S1 S' : St} {e : XE} {id : Nat}
theorem Runs.seq (h : Runs P okF call fg x a S .normal a1 S1) (h' : Runs P okF call fg y a1 S1 e a' S') : Runs P okF call fg (.seq x y) a S e a' S' := by
 obtain ⟨n, h⟩ := h
 obtain ⟨m, h'⟩ := h'
 refine ⟨max n m + 1, ?_⟩
 simp only [xcode, xcode_mono _ _ _ _ _ h _ (Nat.le_max_left n m), XOut.then]
 exact xcode_mono _ _ _ _ _ h' _ (Nat.le_max_right n m)
theorem Runs.seq_ret (h : Runs P okF call fg x a S .ret a1 S1) : Runs P okF call fg (.seq x y) a S .ret a1 S1 := by
 obtain ⟨n, h⟩ := h
 exact ⟨n + 1, by simp only [xcode, h, XOut.then]⟩
theorem Runs.block (h : Runs P okF call fg c a S .normal a1 S1) : Runs P okF call fg (.block id c) a S .normal a1 S1 := by
 obtain ⟨n, h⟩ := h
 exact ⟨n + 1, by simp only [xcode, h, XOut.block]⟩
theorem Runs.block_exit (h : Runs P okF call fg c a S (.exit id) a1 S1) : Runs P okF call fg (.block id c) a S .normal a1 S1 := by
 obtain ⟨n, h⟩ := h
 exact ⟨n + 1, by simp only [xcode, h, XOut.block, if_true]⟩
theorem Runs.block_ret (h : Runs P okF call fg c a S .ret a1 S1) : Runs P okF call fg (.block id c) a S .ret a1 S1 := by
 obtain ⟨n, h⟩ := h
 exact ⟨n + 1, by simp only [xcode, h, XOut.block]⟩
theorem Runs.loop (h : Runs P okF call fg c a S .normal a1 S1) (h' : Runs P okF call fg (.loop c) a1 S1 e a' S') : Runs P okF call fg (.loop c) a S e a' S' := by
 obtain ⟨n, h⟩ := h
 obtain ⟨m, h'⟩ := h'
 refine ⟨max n m + 1, ?_⟩
 simp only [xcode, xcode_mono _ _ _ _ _ h _ (Nat.le_max_left n m), XOut.then]
 exact xcode_mono _ _ _ _ _ h' _ (Nat.le_max_right n m)
theorem Runs.loop_exit (h : Runs P okF call fg c a S (.exit id) a1 S1) : Runs P okF call fg (.loop c) a S (.exit id) a1 S1 := by
 obtain ⟨n, h⟩ := h
 exact ⟨n + 1, by simp only [xcode, h, XOut.then]⟩
theorem Runs.path {yc : YCall} (hc : YX yc call) {n : Nat} {p p' : Path} {C : Bool} (h : ycode P okF yc fg n c a S p = some (C, ((e, a', S'), p'))) (hC : C = true) : Runs P okF call fg c a S e a' S' := by
 subst hC
 exact ⟨n, ycode_is hc _ _ _ _ _ _ _ h⟩
theorem Runs.calls (hm : P.follows .mixedOrders = true) (hF : OkF P okF) (hC : CallSound P call) {f : FuncId} {fn : Func} (hf : P.funcs[f]? = some fn) (hb : fn.body = some c) (hg : goodCode c = true)
 {args : List Value} (h : Runs P okF call fg c (startX fn args) S e a' S') (he : e = .normal ∨ e = .ret) {v : Value} (hv : xres P fn a' S' = some v) {α : Place} {w : World} {args' : Array Value} (hr : Rel α S w) (ha : LRel α args args'.toList) :
 Calls P f args' w fun e w' => ∃ β v', e = .returned v' ∧ Next α S w β S' w' ∧ VRel β v v' := by
 obtain ⟨n, h⟩ := h
 refine xbody_sound (fg := fg) hm hF hC hf hb hg (n := n) (args := args) (v := v) ?_ hr ha
 unfold xbody
 rw [h]
 rcases he with rfl | rfl
 ·simp only [hv]
 ·simp only [hv]
end
end Go.Xe
