/-
  The engine with unknown contents, part d: a call on a small heap, with numbers of its own, is a call on a large one.
-/
import Derived.Test.YtkhjbbigangbdaaDoorM07
import Derived.Test.YtkhjbbigangbdaaDoorChecked
import Derived.KernelRfl
set_option linter.unusedSimpArgs false
set_option linter.unusedVariables false
namespace Go.Xe
open Go

/-- The numbers of a small heap in a large one: those of what is new go behind all. -/
structure Emb (π : Nat → Nat) (C S : St) : Prop where
  inj : ∀ i j, i < C.next → j < C.next → π i = π j → i = j
  lt : ∀ i, i < C.next → π i < S.next
  new : ∀ i, C.next ≤ i → π i = S.next + (i - C.next)
  glob : C.glob = 0

/-- A value of the small heap and one of the large one stand for the same. -/
def RenV (π : Nat → Nat) (a b : Value) : Prop := ∀ (γ : Place) v', VRel (fun i => γ (π i)) a v' ↔ VRel γ b v'
structure RenE (π : Nat → Nat) (a b : Ent) : Prop where
  rel : ∀ (γ : Place) w l, EntRel (fun i => γ (π i)) w l a ↔ EntRel γ w l b
  ro : a.ro = b.ro

variable {π : Nat → Nat} {C C' S S' : St} {α γ : Place} {w w' : World}

theorem Rel.small (h : Rel α S w) (e : Emb π C S) (hc : ∀ i x, C.heap.get i = some x → i < C.next ∧ ∃ y, S.heap.get (π i) = some y ∧ RenE π x y) : Rel (fun i => α (π i)) C w := by
  refine ⟨fun i x hi => ?_, fun i j x y l m hij hi hj hro hl hm => ?_, fun i l hl => ?_, fun i l hl => h.size _ l hl, fun i l hi hl => ?_, by rw [e.glob]; exact Nat.zero_le _⟩
  · obtain ⟨_, y, hy, hr⟩ := hc i x hi
    obtain ⟨l, hl, hent⟩ := h.ent _ y hy
    exact ⟨l, hl, (hr.rel α w l).2 hent⟩
  · obtain ⟨hi1, x', hx', hrx⟩ := hc i x hi
    obtain ⟨hj1, y', hy', hry⟩ := hc j y hj
    refine h.apart (π i) (π j) x' y' l m (fun he => hij (e.inj i j hi1 hj1 he)) hx' hy' ?_ hl hm
    rw [← hrx.ro, ← hry.ro]; exact hro
  · rcases Nat.lt_or_ge i C.next with hlt | hge
    · exact hlt
    · have := h.fresh _ l hl
      rw [e.new i hge] at this
      omega
  · rw [e.glob] at hi; omega

theorem Next.large (h : Rel α S w) (e : Emb π C S) (hc : ∀ i x, C.heap.get i = some x → i < C.next ∧ ∃ y, S.heap.get (π i) = some y ∧ RenE π x y) {βc : Place} (n : Next (fun i => α (π i)) C w βc C' w')
    (hn : S'.next = S.next + (C'.next - C.next)) (hg : S'.glob = S.glob)
    (hu : ∀ k y, S'.heap.get k = some y → (∃ i x, k = π i ∧ C'.heap.get i = some x ∧ RenE π x y ∧ (y.ro = true → S.heap.get k = some y)) ∨ (S.heap.get k = some y ∧ k < S.next ∧ ∀ i x, C.heap.get i = some x → k ≠ π i)) :
    ∃ β : Place, Next α S w β S' w' ∧ βc = fun i => β (π i) := by
  let β : Place := fun k => if k < S.next then α k else βc (C.next + (k - S.next))
  have hβlt : ∀ k, k < S.next → β k = α k := fun k hk => by simp only [β, if_pos hk]
  have hβ : βc = fun i => β (π i) := by
    funext i
    rcases Nat.lt_or_ge i C.next with hlt | hge
    · rw [n.old i hlt, hβlt _ (e.lt i hlt)]
    · simp only [β]
      rw [e.new i hge, if_neg (by omega)]
      congr 1
      omega
  have hext : α.Ext β := fun k l hk => by rw [hβlt k (h.fresh k l hk)]; exact hk
  have hnx := n.next
  have stay : ∀ k y l, S.heap.get k = some y → (∀ i x, C.heap.get i = some x → k ≠ π i) → α k = some l → w'.heap[l.blk]? = w.heap[l.blk]? := by
    intro k y l hk hno hl
    refine n.frame.block _ (h.size k l hl) (fun i x m hi hro hm => ?_)
    obtain ⟨hi1, x', hx', hr⟩ := hc i x hi
    exact h.apart (π i) k x' y m l (fun he => hno i x hi he.symm) hx' hk (.inl (by rw [← hr.ro]; exact hro)) hm hl
  have far : ∀ i x x' m k y l, C'.heap.get i = some x → RenE π x x' → (x'.ro = true → S.heap.get (π i) = some x') → S.heap.get k = some y → (∀ j z, C.heap.get j = some z → k ≠ π j) → (x'.ro = false ∨ y.ro = false) → β (π i) = some m → α k = some l → m.blk ≠ l.blk := by
    intro i x x' m k y l hi hr hold hk hno hro hm hl
    have hlt := h.size k l hl
    have hmc : βc i = some m := by rw [hβ]; exact hm
    cases hx : x.ro with
    | false =>
      rcases n.kept i x m hi hx hmc with h1 | ⟨j, z, q, hj, hzr, hq, hqm⟩
      · omega
      · obtain ⟨hj1, z', hz', hrz⟩ := hc j z hj
        have := h.apart (π j) k z' y q l (fun he => hno j z hj he.symm) hz' hk (.inl (by rw [← hrz.ro]; exact hzr)) hq hl
        omega
    | true =>
      have hxr : x'.ro = true := by rw [← hr.ro]; exact hx
      have hyr : y.ro = false := by rcases hro with hro | hro; (rw [hxr] at hro; cases hro); exact hro
      have hCi := n.ros i x hi hx
      obtain ⟨hi1, _⟩ := hc i x hCi
      have hm' : α (π i) = some m := by rw [← hβlt _ (e.lt i hi1)]; exact hm
      exact h.apart (π i) k x' y m l (fun he => hno i x hCi he.symm) (hold hxr) hk (.inr hyr) hm' hl
  refine ⟨β, ⟨hext, ⟨?_, ?_, ?_, ?_, ?_, ?_⟩, ⟨n.frame.size, ?_, n.frame.os, n.frame.tape, n.frame.output⟩, ?_, by omega, hg, fun i hi => hβlt i hi, ?_, ?_⟩, hβ⟩
  · intro k y hk
    rcases hu k y hk with ⟨i, x, rfl, hi, hr, _⟩ | ⟨h1, h2, h3⟩
    · obtain ⟨l, hl, hent⟩ := n.rel.ent i x hi
      rw [hβ] at hl hent
      exact ⟨l, hl, (hr.rel β w' l).1 hent⟩
    · obtain ⟨l, hl, hent⟩ := h.ent k y h1
      exact ⟨l, hext _ _ hl, (hent.mono hext).of_block (stay k y l h1 h3 hl)⟩
  · intro k k' y y' l m hkk hk hk' hro hl hm
    rcases hu k y hk with ⟨i, x, rfl, hi, hr, hold⟩ | ⟨h1, h2, h3⟩
    · rcases hu k' y' hk' with ⟨j, z, rfl, hj, hrz, hold'⟩ | ⟨g1, g2, g3⟩
      · refine n.rel.apart i j x z l m (fun he => hkk (by rw [he])) hi hj (by rw [hr.ro, hrz.ro]; exact hro) (by rw [hβ]; exact hl) (by rw [hβ]; exact hm)
      · rw [hβlt _ g2] at hm
        exact far i x y l k' y' m hi hr hold g1 g3 hro hl hm
    · rw [hβlt _ h2] at hl
      rcases hu k' y' hk' with ⟨j, z, rfl, hj, hrz, hold'⟩ | ⟨g1, g2, g3⟩
      · exact Ne.symm (far j z y' m k y l hj hrz hold' h1 h3 hro.symm hm hl)
      · rw [hβlt _ g2] at hm
        exact h.apart k k' y y' l m hkk h1 g1 hro hl hm
  · intro k l hl
    rw [hn]
    rcases Nat.lt_or_ge k S.next with hlt | hge
    · omega
    · simp only [β, if_neg (Nat.not_lt.2 hge)] at hl
      have := n.rel.fresh _ l hl
      omega
  · intro k l hl
    rcases Nat.lt_or_ge k S.next with hlt | hge
    · rw [hβlt _ hlt] at hl
      exact Nat.lt_of_lt_of_le (h.size k l hl) n.frame.size
    · simp only [β, if_neg (Nat.not_lt.2 hge)] at hl
      exact n.rel.size _ l hl
  · intro k l hk hl
    rw [hg] at hk
    rw [hβlt _ (Nat.lt_of_lt_of_le hk h.gle)] at hl
    exact h.glob k l hk hl
  · rw [hg, hn]; have := h.gle; omega
  · intro b hb hne
    refine n.frame.block b hb (fun i x l hi hro hl => ?_)
    obtain ⟨hi1, y, hy, hr⟩ := hc i x hi
    exact hne (π i) y l hy (by rw [← hr.ro]; exact hro) hl
  · intro k y m hk hro hm
    rcases hu k y hk with ⟨i, x, rfl, hi, hr, _⟩ | ⟨h1, h2, h3⟩
    · rcases n.kept i x m hi (by rw [hr.ro]; exact hro) (by rw [hβ]; exact hm) with h1 | ⟨j, z, q, hj, hzr, hq, hqm⟩
      · exact .inl h1
      · obtain ⟨hj1, z', hz', hrz⟩ := hc j z hj
        exact .inr ⟨π j, z', q, hz', by rw [← hrz.ro]; exact hzr, hq, hqm⟩
    · rw [hβlt _ h2] at hm
      exact .inr ⟨k, y, m, h1, hro, hm, rfl⟩
  · intro k y hk hlt
    rcases hu k y hk with ⟨i, x, rfl, hi, hr, _⟩ | ⟨h1, h2, h3⟩
    · have hilt : i < C.next := by
        rcases Nat.lt_or_ge i C.next with h1 | h1
        · exact h1
        · rw [e.new i h1] at hlt; omega
      obtain ⟨z, hz⟩ := n.ids i x hi hilt
      obtain ⟨_, z', hz', _⟩ := hc i z hz
      exact ⟨z', hz'⟩
    · exact ⟨y, h1⟩
  · intro k y hk hro
    rcases hu k y hk with ⟨i, x, rfl, hi, hr, hold⟩ | ⟨h1, h2, h3⟩
    · exact hold hro
    · exact h1

/-! What stands for the same. -/
theorem RenV.int (k : IntKind) (n : Int) : RenV π (.int k n) (.int k n) := fun γ v' => ⟨fun h => by cases h; exact .int _ _, fun h => by cases h; exact .int _ _⟩
theorem RenV.bool (b : Bool) : RenV π (.bool b) (.bool b) := fun γ v' => ⟨fun h => by cases h; exact .bool _, fun h => by cases h; exact .bool _⟩
theorem RenV.string (s : ByteArray) : RenV π (.string s) (.string s) := fun γ v' => ⟨fun h => by cases h; exact .string _, fun h => by cases h; exact .string _⟩
theorem RenV.ptr (i o : Nat) : RenV π (.pointer (some ⟨i, o, none⟩)) (.pointer (some ⟨π i, o, none⟩)) := fun γ v' => ⟨fun h => by cases h; exact .ptr _ _ _ ‹_›, fun h => by cases h; exact .ptr _ _ _ ‹_›⟩
theorem RenV.slice (i o len cap : Nat) : RenV π (.slice (some ⟨i, o, none⟩) len cap) (.slice (some ⟨π i, o, none⟩) len cap) := fun γ v' =>
  ⟨fun h => by cases h with
    | slice i o len cap cap' l h hl hc hr => exact .slice _ _ _ _ _ l h hl hc hr
    | sliceEnd a a' => exact .sliceEnd _ _,
   fun h => by cases h with
    | slice i o len cap cap' l h hl hc hr => exact .slice _ _ _ _ _ l h hl hc hr
    | sliceEnd a a' => exact .sliceEnd _ _⟩
theorem RenV.plain1 {v : Value} (h : plain1 v = true) : RenV π v v := fun γ v' =>
  ⟨fun r => by rw [plain_eq r h]; exact plain1_rel γ v h, fun r => by rw [plain_eq r h]; exact plain1_rel _ v h⟩

/-- Lists of values, one by one. -/
def RenL (π : Nat → Nat) (l l' : List Value) : Prop := l.length = l'.length ∧ ∀ (i : Nat) a b, l[i]? = some a → l'[i]? = some b → RenV π a b
theorem RenL.nil : RenL π [] [] := ⟨rfl, fun i a b h => by simp at h⟩
theorem RenL.cons {a b : Value} {l l' : List Value} (h : RenV π a b) (r : RenL π l l') : RenL π (a :: l) (b :: l') := by
  refine ⟨by simp [r.1], fun i x y hx hy => ?_⟩
  cases i with
  | zero => simp at hx hy; subst hx; subst hy; exact h
  | succ i => exact r.2 i x y (by simpa using hx) (by simpa using hy)
theorem RenL.append {a a' b b' : List Value} (r : RenL π a a') (s : RenL π b b') : RenL π (a ++ b) (a' ++ b') := by
  refine ⟨by simp [r.1, s.1], fun i x y hx hy => ?_⟩
  rcases Nat.lt_or_ge i a.length with h | h
  · rw [List.getElem?_append_left h] at hx
    rw [List.getElem?_append_left (by rw [← r.1]; exact h)] at hy
    exact r.2 i x y hx hy
  · rw [List.getElem?_append_right h] at hx
    rw [List.getElem?_append_right (by rw [← r.1]; exact h)] at hy
    rw [← r.1] at hy
    exact s.2 _ x y hx hy
theorem RenL.plain {l : List Value} (h : l.all Go.Xe.plain1 = true) : RenL π l l :=
  ⟨rfl, fun i a b ha hb => by rw [ha] at hb; cases hb; exact .plain1 (List.all_eq_true.1 h a (List.mem_of_getElem? ha))⟩

theorem RenL.lrel {l l' : List Value} (r : RenL π l l') (γ : Place) (vs : List Value) : LRel (fun i => γ (π i)) l vs ↔ LRel γ l' vs := by
  constructor
  · rintro ⟨h1, h2⟩
    refine ⟨by rw [← r.1, h1], fun i v v' hv hv' => ?_⟩
    have hi : i < l.length := by rw [r.1]; exact (List.getElem?_eq_some_iff.1 hv).1
    exact (r.2 i _ v (List.getElem?_eq_getElem hi) hv γ v').1 (h2 i _ v' (List.getElem?_eq_getElem hi) hv')
  · rintro ⟨h1, h2⟩
    refine ⟨by rw [r.1, h1], fun i v v' hv hv' => ?_⟩
    have hi : i < l'.length := by rw [← r.1]; exact (List.getElem?_eq_some_iff.1 hv).1
    exact (r.2 i v _ hv (List.getElem?_eq_getElem hi) γ v').2 (h2 i _ v' (List.getElem?_eq_getElem hi) hv')

theorem arr_get {a : Array Value} {i : Nat} {v : Value} : a[i]? = some v ↔ a.toList[i]? = some v := by rw [Array.getElem?_toList]

theorem RenV.tuple {a b : Array Value} (r : RenL π a.toList b.toList) : RenV π (.tuple a) (.tuple b) := fun γ v' =>
  ⟨fun h => by
    cases h with
    | tuple _ c hs hr =>
      have := (r.lrel γ c.toList).1 ⟨by simpa using hs, fun i v v' e e' => hr i v v' (arr_get.2 e) (arr_get.2 e')⟩
      exact .tuple _ _ (by have := this.1; simpa using this) (fun i v v' e e' => this.2 i v v' (arr_get.1 e) (arr_get.1 e')),
   fun h => by
    cases h with
    | tuple _ c hs hr =>
      have := (r.lrel γ c.toList).2 ⟨by simpa using hs, fun i v v' e e' => hr i v v' (arr_get.2 e) (arr_get.2 e')⟩
      exact .tuple _ _ (by have := this.1; simpa using this) (fun i v v' e e' => this.2 i v v' (arr_get.1 e) (arr_get.1 e'))⟩
theorem RenV.agg {a b : Array Value} (r : RenL π a.toList b.toList) : RenV π (.agg a) (.agg b) := fun γ v' =>
  ⟨fun h => by
    cases h with
    | agg _ c hs hr =>
      have := (r.lrel γ c.toList).1 ⟨by simpa using hs, fun i v v' e e' => hr i v v' (arr_get.2 e) (arr_get.2 e')⟩
      exact .agg _ _ (by have := this.1; simpa using this) (fun i v v' e e' => this.2 i v v' (arr_get.1 e) (arr_get.1 e')),
   fun h => by
    cases h with
    | agg _ c hs hr =>
      have := (r.lrel γ c.toList).2 ⟨by simpa using hs, fun i v v' e e' => hr i v v' (arr_get.2 e) (arr_get.2 e')⟩
      exact .agg _ _ (by have := this.1; simpa using this) (fun i v v' e e' => this.2 i v v' (arr_get.1 e) (arr_get.1 e'))⟩

theorem RenE.row {cs cs' : List Value} {esz : Nat} {ro : Bool} (r : RenL π cs cs') : RenE π (.row cs esz ro) (.row cs' esz ro) := by
  refine ⟨fun γ w l => ⟨?_, ?_⟩, rfl⟩
  · rintro ⟨h0, c, t, fr, h1, h2, h3, h4, h5⟩
    refine ⟨h0, c, t, fr, h1, h2, by rw [← r.1]; exact h3, h4, fun i v hv => ?_⟩
    have hi : i < cs.length := by rw [r.1]; exact (List.getElem?_eq_some_iff.1 hv).1
    obtain ⟨v', g1, g2⟩ := h5 i _ (List.getElem?_eq_getElem hi)
    exact ⟨v', g1, (r.2 i _ v (List.getElem?_eq_getElem hi) hv γ v').1 g2⟩
  · rintro ⟨h0, c, t, fr, h1, h2, h3, h4, h5⟩
    refine ⟨h0, c, t, fr, h1, h2, by rw [r.1]; exact h3, h4, fun i v hv => ?_⟩
    have hi : i < cs'.length := by rw [← r.1]; exact (List.getElem?_eq_some_iff.1 hv).1
    obtain ⟨v', g1, g2⟩ := h5 i _ (List.getElem?_eq_getElem hi)
    exact ⟨v', g1, (r.2 i v _ hv (List.getElem?_eq_getElem hi) γ v').2 g2⟩
theorem RenE.plain {cs : List Value} {esz : Nat} {ro : Bool} (h : cs.all Go.Xe.plain1 = true) : RenE π (.row cs esz ro) (.row cs esz ro) := .row (.plain h)
end Go.Xe
/-
  The engine with unknown contents, part e: code runs, without counting.
-/
set_option linter.unusedSimpArgs false
set_option linter.unusedVariables false
namespace Go.Xe
open Go

section
variable {P : Program} {okF : FuncId → Bool} {call : XCall} {fg : Nat → Option Nat}

theorem xcode_mono : ∀ (n : Nat) (c : Code) (a : XAct) (S : St) (r : XE × XAct × St), xcode P okF call fg n c a S = some r → ∀ m, n ≤ m → xcode P okF call fg m c a S = some r := by
  intro n
  induction n with
  | zero => intro c a S r h; simp [xcode] at h
  | succ n ih =>
    intro c a S r h m hm
    obtain ⟨m, rfl⟩ : ∃ k, m = k + 1 := ⟨m - 1, by omega⟩
    have hm : n ≤ m := by omega
    cases c with
    | seq x y =>
      simp only [xcode] at h ⊢
      cases hx : xcode P okF call fg n x a S with
      | none => rw [hx] at h; cases h
      | some q =>
        rw [ih _ _ _ _ hx m hm]
        rw [hx] at h
        obtain ⟨e, a1, S1⟩ := q
        cases e with
        | normal => exact ih _ _ _ _ h m hm
        | exit i => exact h
        | ret => exact h
    | cond c x y =>
      simp only [xcode] at h ⊢
      split at h
      · exact ih _ _ _ _ h m hm
      · exact ih _ _ _ _ h m hm
      · cases h
    | block id c =>
      simp only [xcode] at h ⊢
      cases hx : xcode P okF call fg n c a S with
      | none => rw [hx] at h; cases h
      | some q => rw [ih _ _ _ _ hx m hm]; rw [hx] at h; exact h
    | loop c =>
      simp only [xcode] at h ⊢
      cases hx : xcode P okF call fg n c a S with
      | none => rw [hx] at h; cases h
      | some q =>
        rw [ih _ _ _ _ hx m hm]
        rw [hx] at h
        obtain ⟨e, a1, S1⟩ := q
        cases e with
        | normal => exact ih _ _ _ _ h m hm
        | exit i => exact h
        | ret => exact h
    | skip => exact h
    | region id ops d => cases d <;> exact h
    | exit id => exact h
    | ret => exact h
    | label l => exact h
    | rangeFunc _ _ _ _ => simp [xcode] at h
    | scope _ => simp [xcode] at h
    | goto _ => simp [xcode] at h
    | refuse _ => simp [xcode] at h

variable (P okF call fg)
/-- Code runs to this. -/
def Runs (c : Code) (a : XAct) (S : St) (e : XE) (a' : XAct) (S' : St) : Prop := ∃ n, xcode P okF call fg n c a S = some (e, a', S')
variable {P okF call fg}

variable {c x y : Code} {a a1 a' : XAct} {S S1 S' : St} {e : XE} {id : Nat}

theorem Runs.seq (h : Runs P okF call fg x a S .normal a1 S1) (h' : Runs P okF call fg y a1 S1 e a' S') : Runs P okF call fg (.seq x y) a S e a' S' := by
  obtain ⟨n, h⟩ := h
  obtain ⟨m, h'⟩ := h'
  refine ⟨max n m + 1, ?_⟩
  simp only [xcode, xcode_mono _ _ _ _ _ h _ (Nat.le_max_left n m), XOut.then]
  exact xcode_mono _ _ _ _ _ h' _ (Nat.le_max_right n m)
theorem Runs.seq_exit (h : Runs P okF call fg x a S (.exit id) a1 S1) : Runs P okF call fg (.seq x y) a S (.exit id) a1 S1 := by
  obtain ⟨n, h⟩ := h
  exact ⟨n + 1, by simp only [xcode, h, XOut.then]⟩
theorem Runs.seq_ret (h : Runs P okF call fg x a S .ret a1 S1) : Runs P okF call fg (.seq x y) a S .ret a1 S1 := by
  obtain ⟨n, h⟩ := h
  exact ⟨n + 1, by simp only [xcode, h, XOut.then]⟩
theorem Runs.block (h : Runs P okF call fg c a S .normal a1 S1) : Runs P okF call fg (.block id c) a S .normal a1 S1 := by
  obtain ⟨n, h⟩ := h
  exact ⟨n + 1, by simp only [xcode, h, XOut.block]⟩
theorem Runs.block_exit (h : Runs P okF call fg c a S (.exit id) a1 S1) : Runs P okF call fg (.block id c) a S .normal a1 S1 := by
  obtain ⟨n, h⟩ := h
  exact ⟨n + 1, by simp only [xcode, h, XOut.block, if_true]⟩
theorem Runs.block_ret (h : Runs P okF call fg c a S .ret a1 S1) : Runs P okF call fg (.block id c) a S .ret a1 S1 := by
  obtain ⟨n, h⟩ := h
  exact ⟨n + 1, by simp only [xcode, h, XOut.block]⟩
theorem Runs.block_other {i : Nat} (hi : i ≠ id) (h : Runs P okF call fg c a S (.exit i) a1 S1) : Runs P okF call fg (.block id c) a S (.exit i) a1 S1 := by
  obtain ⟨n, h⟩ := h
  exact ⟨n + 1, by simp only [xcode, h, XOut.block, if_neg hi]⟩
theorem Runs.loop (h : Runs P okF call fg c a S .normal a1 S1) (h' : Runs P okF call fg (.loop c) a1 S1 e a' S') : Runs P okF call fg (.loop c) a S e a' S' := by
  obtain ⟨n, h⟩ := h
  obtain ⟨m, h'⟩ := h'
  refine ⟨max n m + 1, ?_⟩
  simp only [xcode, xcode_mono _ _ _ _ _ h _ (Nat.le_max_left n m), XOut.then]
  exact xcode_mono _ _ _ _ _ h' _ (Nat.le_max_right n m)
theorem Runs.loop_exit (h : Runs P okF call fg c a S (.exit id) a1 S1) : Runs P okF call fg (.loop c) a S (.exit id) a1 S1 := by
  obtain ⟨n, h⟩ := h
  exact ⟨n + 1, by simp only [xcode, h, XOut.then]⟩
theorem Runs.loop_ret (h : Runs P okF call fg c a S .ret a1 S1) : Runs P okF call fg (.loop c) a S .ret a1 S1 := by
  obtain ⟨n, h⟩ := h
  exact ⟨n + 1, by simp only [xcode, h, XOut.then]⟩
theorem Runs.cond_true {o : Operand} (hc : evalX S a o = some (.bool true)) (h : Runs P okF call fg x a S e a' S') : Runs P okF call fg (.cond o x y) a S e a' S' := by
  obtain ⟨n, h⟩ := h
  exact ⟨n + 1, by simp only [xcode, hc, h]⟩
theorem Runs.cond_false {o : Operand} (hc : evalX S a o = some (.bool false)) (h : Runs P okF call fg y a S e a' S') : Runs P okF call fg (.cond o x y) a S e a' S' := by
  obtain ⟨n, h⟩ := h
  exact ⟨n + 1, by simp only [xcode, hc, h]⟩

/-- A path that is followed: what is noted on it holds. -/
theorem Runs.path {yc : YCall} (hc : YX yc call) {n : Nat} {p p' : Path} {C : Bool} (h : ycode P okF yc fg n c a S p = some (C, ((e, a', S'), p'))) (hC : C = true) : Runs P okF call fg c a S e a' S' := by
  subst hC
  exact ⟨n, ycode_is hc _ _ _ _ _ _ _ h⟩

/-- A call of a function whose body runs. -/
theorem Runs.calls (hm : P.follows .mixedOrders = true) (hF : OkF P okF) (hC : CallSound P call) {f : FuncId} {fn : Func} (hf : P.funcs[f]? = some fn) (hb : fn.body = some c) (hg : goodCode c = true)
    {args : List Value} (h : Runs P okF call fg c (startX fn args) S e a' S') (he : e = .normal ∨ e = .ret) {v : Value} (hv : xres P fn a' S' = some v) {α : Place} {w : World} {args' : Array Value} (hr : Rel α S w) (ha : LRel α args args'.toList) :
    Calls P f args' w fun e w' => ∃ β v', e = .returned v' ∧ Next α S w β S' w' ∧ VRel β v v' := by
  obtain ⟨n, h⟩ := h
  refine xbody_sound (fg := fg) hm hF hC hf hb hg (n := n) (args := args) (v := v) ?_ hr ha
  unfold xbody
  rw [h]
  rcases he with rfl | rfl
  · simp only [hv]
  · simp only [hv]
end
end Go.Xe
/-
  Which slots are wanted behind each region of each function (printed by YGen.lean and mkkeep.py).
-/
namespace Go.Xe
def keepT : List (Nat × List Nat) := [
  (3, [15, 526, 3598, 34359739918, 256, 5644, 1544, 4503599627372040, 256, 26120, 9223372036854785544, 256, 42496, 230912, 1015808, 79228162514264337593544245248, 256, 3178496, 256]),
  (4, [1, 513, 12, 12]),
  (5, [7, 131, 98435, 229507, 98691, 98435, 98435, 64]),
  (6, [7, 135, 2183, 64, 34359738375, 64, 1099511627783, 0, 64, 7, 7, 0, 64]),
  (7, [1, 9, 137, 4, 1, 0, 4]),
  (8, [1, 17, 1048593, 12, 33, 224, 8796093022432, 12, 864, 864, 73786976294838206560, 96, 96, 1120, 3168, 604462909807314587356256, 31840, 309485009821345068724796512, 3168, 15456, 162259276829213363391578010303584, 7264, 3168, 1056, 1056, 32, 32, 20461022922632640854851587658027962275183055601696, 43845049119927087546110544981488490589677976289312, 20461022922632640854851587658027962275183055667232, 20461022922632640854851587658027962275183055601696, 20461022922632640854851587658027962275183055601696, 32, 12]),
  (9, [7, 135, 2183, 64, 8199, 64, 2097159, 64, 64]),
  (10, [1, 9, 137, 4, 4]),
  (11, [3, 98, 480, 1099511627904, 16, 16]),
  (12, [3, 67, 524355, 48, 387, 2147483779, 48, 1667, 140737488356995, 48, 2691, 6787, 43651, 75557863725914323421827, 0, 48, 48]),
  (13, [0, 6, 30, 68719476746, 1, 42, 106, 234, 994, 2018, 4066, 16352, 4611686018427404256, 1, 65504, 196576, 1]),
  (14, [1, 9, 4, 128, 4, 4]),
  (15, [1, 17, 4, 4]),
  (16, [7, 263, 4359, 192, 549755813895, 192, 192]),
  (17, [3, 35, 4194336, 16, 16]),
  (18, [19, 146, 34359738514, 112, 914, 576460752303424402, 112, 1938, 75557863725914323421074, 112, 2192, 112]),
  (19, [19, 0]),
  (20, [12, 16]),
  (21, [3, 35, 99, 2115, 4096, 16, 16, 8195, 16, 65539, 16, 524288, 16, 16]),
  (22, [3, 35, 4131, 16, 99, 524387, 99, 227, 536871139, 99, 99, 33, 16]),
  (23, [6, 8]),
  (24, [131, 643, 179, 65683, 131]),
  (25, [8, 16]),
  (26, [1, 9, 4, 129, 4, 4]),
  (27, [15, 527, 1551, 4294968847, 1551, 3599, 1099511631375, 256, 5647, 2251799813690895, 5647, 9743, 302231454903657293686287, 256, 38685626227668133590599183, 1551, 17927, 17927, 17927, 16391, 16391, 10889035741470030830827987437816582782981, 0, 256]),
  (28, [3, 67, 2, 16]),
  (29, [7, 16391, 64, 135, 1835143, 3932295, 1835911, 17181704839, 1835143, 1835143, 7696581394565, 16492674416773, 7696581397637, 36036493600360581, 7696581396613, 7696581394565, 7696581394565, 1, 0, 64]),
  (30, [1, 33, 4, 1, 0, 4]),
  (31, [0, 2, 130, 386, 134, 142, 178, 8589934738, 1, 130, 130, 1]),
  (32, [1, 2049, 4, 4]),
  (33, [1, 4]),
  (34, [1, 9, 456, 968, 504, 456, 456, 4]),
  (35, [3, 1027, 16, 12291, 28675, 12323, 16789507, 16, 12291, 16]),
  (36, [3, 33, 16]),
  (37, [3, 34, 28704, 61472, 28832, 28704, 28704, 28704, 16]),
  (38, [1055, 3103, 7199, 33561631, 0, 4294974495, 0, 549755821087, 7199, 7199, 31775, 72057594037959711, 15391, 15391, 31775, 37778931862957161724959, 1208925819614629174721567, 158456325028528675187087916063, 35869, 3103, 200735, 71711, 858143, 1902623, 42535295865117307932921825928972929055, 68639, 68637, 3103, 68639, 68635, 3103]),
  (39, [1, 4, 4]),
  (40, [1, 4]),
  (41, [3, 387, 899, 419, 65955, 16, 387, 16]),
  (42, [1, 4]),
  (43, [7, 135, 3670151, 7864455, 3670919, 274881577351, 3670151, 3670151, 8796093022337, 64, 1153, 18014398509483137, 1153, 3201, 5249, 38685626227668133590602881, 64, 9345, 39614081257132168796771984513, 64, 129, 145384312038975173598853897218162817, 311537811512089657711829779753205889, 145384312038975173598853897218195585, 1361274851995792829027097283624291041409, 145384312038975173598853897218162817, 145384312038975173598853897218162817, 0, 64]),
  (44, [63, 8255, 41015, 8247, 8245, 8241, 8241, 8241, 8193, 4096]),
  (45, [9, 137, 1048713, 48, 2147483657, 48, 265, 265, 3848290697480, 8246337208584, 3848290698504, 3848290698504, 3848290697480, 3848290697480, 264, 264, 264, 4231240368651202111471872, 9066943647109718810296576, 4231240368651202111475968, 4231240368651202111471872, 4231240368651202111471872, 8448, 8448, 48]),
  (46, [1, 8, 8, 4]),
  (47, [2, 4]),
  (48, [7, 387, 899, 387, 387, 387, 64]),
  (49, [271, 16655, 271, 783, 17179869967, 783, 783]),
  (50, [271, 783, 1801, 3849, 2101001, 3849, 3849, 4873, 8589939465, 4873, 4873, 4873]),
  (51, [259, 131331, 771, 1795, 3843, 34359742211, 3843, 7939, 35184372096771, 7939, 3843]),
  (52, [15, 1035, 3083, 7179, 15371, 31753, 17179900937, 68719507465, 30729, 30729, 30729, 10240, 36028797018972160, 768, 180143985094828032, 768, 1152921504606855168, 768]),
  (53, [261, 769, 33537, 769, 769, 769]),
  (54, [15, 527, 1551, 67087, 1551, 68719478287, 1551, 2199023257103, 256, 35184372090383, 256, 1551, 36893488147419104783, 3599, 590295810358705655311, 3599, 19342813113834066795302415, 3599, 20282409603651670423947251287567, 5647, 649037107316853453566312041158159, 5647, 21267647932558653966460912964485518863, 5647, 256]),
  (55, [31, 23, 6163, 140737488361491, 6163, 36893488147419109395, 6163, 1180591620717411309587, 6163, 6163, 6163, 1024]),
  (56, [31, 23, 12307, 140737488367635, 12307, 73786976294838218771, 12307, 2361183241434822619155, 8192, 3072, 12307, 12307, 12307, 1329227995784915872903807060280356883, 12307, 696898287454081973172991196020261297074195, 12307, 22300745198530623141535718272648361505992723, 12307, 12307, 12307, 8192, 3072]),
  (57, [5, 21, 1, 5, 261, 5, 5, 4]),
  (58, [5, 21, 1, 5, 261, 5, 5, 16389, 5, 5, 4]),
  (59, [1, 17, 4, 4]),
  (60, [1, 17, 8209, 12, 33, 458784, 983072, 458912, 458784, 458784, 32, 68719476768, 343597383712, 68719477536, 68719477536, 68719476768, 32, 12]),
  (61, [0, 1]),
  (62, [449, 961, 481, 449, 449]),
  (63, [3, 0]),
  (64, [9, 9, 131081, 9, 9, 9, 9, 9, 962072674305, 2061584302081, 962072674337, 962072674305, 962072674305]),
  (65, [13, 525, 13, 13]),
  (66, [1, 9, 41, 105, 57, 41, 41, 41, 4]),
  (67, [1, 4]),
  (68, [5, 0]),
  (69, [33, 161, 41, 8225]),
  (70, [1053, 3101, 265245, 1099511630877, 3101, 288230376151714845, 2077, 1053]),
  (71, [1, 4]),
  (72, [1, 1, 1, 1, 4]),
  (73, [15, 256]),
  (74, [63, 63, 55, 4, 4096]),
  (75, [1, 129, 4, 1793, 3841, 1817, 34577, 4, 34359740161, 4, 1793, 4]),
  (76, [0, 1]),
  (77, [7, 2055, 64, 391, 2097543, 64, 33554823, 64, 536871303, 64, 1099511628039, 64, 263, 257, 147573952589676412929, 0, 64]),
  (78, [6, 4, 16]),
  (79, [271, 783, 1807, 8390415, 0, 536872719, 0, 34359740175, 1807, 1807, 7951, 1125899906850575, 3855, 3855, 7951, 295147905179352829711, 4722366482869645217551, 154742504910672534362394383, 8973, 783, 50191, 17935, 214543, 475663, 10384593717069655257060992658915855, 17167, 17165, 783, 17167, 17163, 783]),
  (80, [31, 4194318, 6, 3072, 3072]),
  (81, [1, 4]),
  (82, [1, 4]),
  (83, [71, 4167, 71, 199, 1073742023, 199, 199]),
  (84, [71, 199, 449, 961, 525249, 961, 961, 1217, 1073743041, 1217, 1217, 1217]),
  (85, [67, 32835, 195, 451, 963, 8589935555, 963, 1987, 8796093024195, 1987, 963]),
  (86, [7, 259, 771, 1795, 3843, 7937, 4294975233, 17179876865, 7681, 7681, 7681, 2560, 562949953423360, 192, 2814749767108608, 192, 18014398509484032, 192]),
  (87, [69, 193, 8385, 193, 193, 193]),
  (88, [7, 135, 391, 16775, 391, 4294967687, 391, 137438953863, 64, 2199023255943, 64, 391, 2305843009213694343, 903, 36893488147419104135, 903, 302231454903657293677447, 903, 316912650057057350374175801735, 1415, 10141204801825835211973625644423, 1415, 83076749736557242056487941267522951, 1415, 64]),
  (89, [3, 16]),
  (90, [15, 7, 1539, 8796093023747, 1539, 576460752303425027, 1539, 18446744073709553155, 1539, 1539, 1539, 256]),
  (91, [15, 7, 3075, 8796093025283, 3075, 1152921504606850051, 3075, 36893488147419106307, 2048, 768, 3075, 3075, 3075, 5192296858534827628530496329223171, 3075, 680564733841876926926749214863536425987, 3075, 21778071482940061661655974875633165536259, 3075, 3075, 3075, 2048, 768]),
  (92, [3, 65537, 16, 786433, 1835009, 786465, 786497, 2199024041985, 16, 786433, 16]),
  (93, [1, 4]),
  (94, [3, 16]),
  (95, [269, 781, 66317, 68719477517, 781, 4503599627371277, 525, 269]),
  (96, [7, 64]),
  (97, [31, 31, 23, 4, 1024]),
  (98, [1, 4]),
  (99, [1, 4]),
  (100, [3, 387, 899, 419, 65955, 16, 387, 16]),
  (101, [15, 262158, 6, 768, 768])
]
def keepL : List (Nat × List Nat) → Nat → List Nat
  | [], _ => []
  | (g, l) :: r, f => if g == f then l else keepL r f
def keepN : List Nat → Nat → Option Nat
  | [], _ => none
  | m :: _, 0 => some m
  | _ :: r, i + 1 => keepN r i
def kp : Keep := fun f id => keepN (keepL keepT f) id
end Go.Xe
/-
  The functions that may be run: they have bodies, and each region's order is well drawn.
-/
namespace Go.Xe
open Go Go.Proofs

/-- the functions from 3 on, below the program's own methods -/
def okN (f : FuncId) : Bool := decide (3 ≤ f) && decide (f < 102)
def okOne (P : Program) (f : Nat) : Bool :=
  match P.funcs[f]? with
  | some fn => !(fn.name == "runtime.NumGoroutine") && (match fn.body with
    | some c => goodCode c
    | none => false)
  | none => false
def okAll (P : Program) : Nat → Bool
  | 0 => true
  | n + 1 => okOne P (n + 3) && okAll P n
theorem okAll_at {P : Program} : ∀ n, okAll P n = true → ∀ f, 3 ≤ f → f < n + 3 → okOne P f = true
  | 0, _, f, h1, h2 => by omega
  | n + 1, h, f, h1, h2 => by
    simp only [okAll, Bool.and_eq_true] at h
    by_cases hf : f = n + 3
    · rw [hf]; exact h.1
    · exact okAll_at n h.2 f h1 (by omega)

theorem allOk : okAll Tryd.prog 99 = true := by kernel_rfl

theorem okN_one {f : FuncId} (h : okN f = true) : okOne Tryd.prog f = true := by
  simp only [okN, Bool.and_eq_true, decide_eq_true_eq] at h
  exact okAll_at 99 allOk f h.1 h.2
theorem okN_ok : OkF Tryd.prog okN := by
  intro f h
  have := okN_one h
  unfold okOne at this
  split at this
  · rename_i fn hf
    simp only [Bool.and_eq_true, Bool.not_eq_true'] at this
    refine ⟨fn, hf, ?_, this.1⟩
    have h2 := this.2
    split at h2
    · rename_i c hc; simp [hc]
    · cases h2
  · cases this
theorem okN_good : GoodF Tryd.prog okN := by
  intro f fn c h hf hb
  have := okN_one h
  unfold okOne at this
  rw [hf] at this
  simp only [hb, Bool.and_eq_true] at this
  exact this.2
theorem mixed : Tryd.prog.follows .mixedOrders = true := Tryd.checked.mixed
end Go.Xe
/-
  Paths: what the code of each function comes to along them (printed by emit.py).
-/
set_option linter.unusedVariables false
namespace Go.Xe
open Go Go.Proofs
def sub : Code → List Nat → Code
  | c, [] => c
  | .seq a _, 0 :: r => sub a r
  | .seq _ b, _ :: r => sub b r
  | .cond _ a _, 0 :: r => sub a r
  | .cond _ _ b, _ :: r => sub b r
  | .block _ c, _ :: r => sub c r
  | .loop c, _ :: r => sub c r
  | c, _ => c
def loopOf : Code → Option Code
  | .seq a b => match loopOf a with | some x => some x | none => loopOf b
  | .block _ c => loopOf c
  | .loop c => some c
  | _ => none
def codeOf (P : Program) (f : Nat) : Code := match P.funcs[f]? with | some fn => (match fn.body with | some c => c | none => .skip) | none => .skip
def bodyOf (P : Program) (f : Nat) : Code := match loopOf (codeOf P f) with | some c => c | none => .skip
def noOrc : Orc := fun _ => none
noncomputable def yc0 : YCall := ygo Tryd.prog okN noOrc kp 100

theorem sumPre0 (at' : Int) (o len cap : Nat) (cs : List Value) (ro : Bool) : ycode Tryd.prog okN yc0 (kp 37) 100 (sub (codeOf Tryd.prog 37) [0]) (startX Tryd.f37 [.int .i64 at', .slice (some ⟨0, o, none⟩) len cap]) { heap := PT.leaf.set 0 (some (.row cs 1 ro)), next := 1, glob := 0 } [] = some (true, ((XE.normal, [some (Value.int IntKind.i64 at'), some (Value.slice (some { block := 0, off := o : Addr }) len cap), none, none, none, none, none, none, none, none, none, none, none, none, none, none, none, none, none, none, none, none, none, none, none, none, none, none, none], { heap := PT.node PT.leaf (some (Ent.row cs 1 ro)) PT.leaf, next := 1, glob := 0 : St }), [])) := by kernel_rfl
theorem sumPre1 (at' : Int) (o len cap : Nat) (cs : List Value) (ro : Bool) : ycode Tryd.prog okN yc0 (kp 37) 100 (sub (codeOf Tryd.prog 37) [1,0]) [some (.int .i64 at'), some (.slice (some ⟨0, o, none⟩) len cap), none, none, none, none, none, none, none, none, none, none, none, none, none, none, none, none, none, none, none, none, none, none, none, none, none, none, none] { heap := PT.leaf.set 0 (some (.row cs 1 ro)), next := 1, glob := 0 } [] = some (true, ((XE.normal, [none, some (Value.slice (some { block := 0, off := o : Addr }) len cap), none, none, none, some (Value.int IntKind.u64 (IntKind.wrap IntKind.u64 ↑(BitVec.toNat (BitVec.ofInt 64 14695981039346656037 ^^^ BitVec.ofInt 64 (IntKind.wrap IntKind.u64 (IntKind.wrap IntKind.u64 at' * 11400714819323198485)))))), none, none, none, none, none, none, none, none, none, none, none, none, none, none, none, none, none, none, none, none, none, none, none], { heap := PT.node PT.leaf (some (Ent.row cs 1 ro)) PT.leaf, next := 1, glob := 0 : St }), [])) := by kernel_rfl
theorem sumPre2 (h : Int) (o len cap : Nat) (cs : List Value) (ro : Bool) : ycode Tryd.prog okN yc0 (kp 37) 100 (sub (codeOf Tryd.prog 37) [1,1,0,0]) [none, some (.slice (some ⟨0, o, none⟩) len cap), none, none, none, some (.int .u64 h), none, none, none, none, none, none, none, none, none, none, none, none, none, none, none, none, none, none, none, none, none, none, none] { heap := PT.leaf.set 0 (some (.row cs 1 ro)), next := 1, glob := 0 } [] = some (true, ((XE.normal, [none, none, none, none, none, some (Value.int IntKind.u64 h), none, none, none, none, none, none, some (Value.slice (some { block := 0, off := o : Addr }) len cap), some (Value.int IntKind.i64 ↑len), some (Value.int IntKind.i64 0), none, none, none, none, none, none, none, none, none, none, none, none, none, none], { heap := PT.node PT.leaf (some (Ent.row cs 1 ro)) PT.leaf, next := 1, glob := 0 : St }), [])) := by kernel_rfl
theorem sumRound (h ix : Int) (o len cap : Nat) (cs : List Value) (ro : Bool) : ycode Tryd.prog okN yc0 (kp 37) 100 (sub (codeOf Tryd.prog 37) [1,1,0,1,0,0]) [none, none, none, none, none, some (.int .u64 h), none, none, none, none, none, none, some (.slice (some ⟨0, o, none⟩) len cap), some (.int .i64 len), some (.int .i64 ix), none, none, none, none, none, none, none, none, none, none, none, none, none, none] { heap := PT.leaf.set 0 (some (.row cs 1 ro)), next := 1, glob := 0 } [true] = some (decide (ix < ↑len) && true && (decide (0 ≤ ix) && (decide (ix < ↑len) && true) && true && true && (decide (o + Int.toNat ix * 1 < List.length cs) && true && (isInt IntKind.u8 (List.getD cs (o + Int.toNat ix * 1) undefX) && true) && true && true && true) && true && true && true && true), ((XE.normal, [none, none, none, none, none, some (Value.int IntKind.u64 (IntKind.wrap IntKind.u64 ↑(BitVec.toNat (BitVec.ofInt 64 (IntKind.wrap IntKind.u64 (IntKind.wrap IntKind.u64 ↑(BitVec.toNat (BitVec.ofInt 64 h ^^^ BitVec.ofInt 64 (IntKind.wrap IntKind.u64 (intOf (List.getD cs (o + Int.toNat ix * 1) undefX))))) * 1099511628211)) ^^^ BitVec.ofInt 64 (Int.fdiv (IntKind.wrap IntKind.u64 (IntKind.wrap IntKind.u64 ↑(BitVec.toNat (BitVec.ofInt 64 h ^^^ BitVec.ofInt 64 (IntKind.wrap IntKind.u64 (intOf (List.getD cs (o + Int.toNat ix * 1) undefX))))) * 1099511628211)) 2147483648))))), none, none, none, none, none, none, some (Value.slice (some { block := 0, off := o : Addr }) len cap), some (Value.int IntKind.i64 ↑len), some (Value.int IntKind.i64 (IntKind.wrap IntKind.i64 (ix + 1))), none, none, none, none, none, none, none, none, none, none, none, none, none, none], { heap := PT.node PT.leaf (some (Ent.row cs 1 ro)) PT.leaf, next := 1, glob := 0 : St }), [])) := by kernel_rfl
theorem sumLast (h ix : Int) (o len cap : Nat) (cs : List Value) (ro : Bool) : ycode Tryd.prog okN yc0 (kp 37) 100 (sub (codeOf Tryd.prog 37) [1,1,0,1,0,0]) [none, none, none, none, none, some (.int .u64 h), none, none, none, none, none, none, some (.slice (some ⟨0, o, none⟩) len cap), some (.int .i64 len), some (.int .i64 ix), none, none, none, none, none, none, none, none, none, none, none, none, none, none] { heap := PT.leaf.set 0 (some (.row cs 1 ro)), next := 1, glob := 0 } [false] = some (!decide (ix < ↑len) && true && true, ((XE.exit 0, [none, none, none, none, none, some (Value.int IntKind.u64 h), none, none, none, none, none, none, some (Value.slice (some { block := 0, off := o : Addr }) len cap), some (Value.int IntKind.i64 ↑len), some (Value.int IntKind.i64 ix), some (Value.bool (decide (ix < ↑len))), none, none, none, none, none, none, none, none, none, none, none, none, none], { heap := PT.node PT.leaf (some (Ent.row cs 1 ro)) PT.leaf, next := 1, glob := 0 : St }), [])) := by kernel_rfl
theorem sumPost (h ix : Int) (o len cap : Nat) (cs : List Value) (ro : Bool) (j : Option Value) : ycode Tryd.prog okN yc0 (kp 37) 100 (sub (codeOf Tryd.prog 37) [1,1,1]) [none, none, none, none, none, some (.int .u64 h), none, none, none, none, none, none, some (.slice (some ⟨0, o, none⟩) len cap), some (.int .i64 len), some (.int .i64 ix), j, none, none, none, none, none, none, none, none, none, none, none, none, none] { heap := PT.leaf.set 0 (some (.row cs 1 ro)), next := 1, glob := 0 } [] = some (true, ((XE.ret, [none, none, none, none, some (Value.int IntKind.u64 h), none, none, none, none, none, none, none, none, none, none, none, none, none, none, none, none, none, none, none, none, none, none, none, none], { heap := PT.node PT.leaf (some (Ent.row cs 1 ro)) PT.leaf, next := 1, glob := 0 : St }), [])) := by kernel_rfl
end Go.Xe
/-
  The sum of bytes at a place: what the program's function gives.
-/
set_option linter.unusedVariables false
namespace Go.Xe
open Go Go.Proofs

def sumStep (h b : Int) : Int :=
  IntKind.wrap IntKind.u64 ↑(BitVec.toNat (BitVec.ofInt 64 (IntKind.wrap IntKind.u64 (IntKind.wrap IntKind.u64 ↑(BitVec.toNat (BitVec.ofInt 64 h ^^^ BitVec.ofInt 64 (IntKind.wrap IntKind.u64 b))) * 1099511628211)) ^^^ BitVec.ofInt 64 (Int.fdiv (IntKind.wrap IntKind.u64 (IntKind.wrap IntKind.u64 ↑(BitVec.toNat (BitVec.ofInt 64 h ^^^ BitVec.ofInt 64 (IntKind.wrap IntKind.u64 b))) * 1099511628211)) 2147483648)))
def sumFrom (h : Int) : List Value → Int
  | [] => h
  | v :: r => sumFrom (sumStep h (intOf v)) r
def sumSeed (at' : Int) : Int := IntKind.wrap IntKind.u64 ↑(BitVec.toNat (BitVec.ofInt 64 14695981039346656037 ^^^ BitVec.ofInt 64 (IntKind.wrap IntKind.u64 (IntKind.wrap IntKind.u64 at' * 11400714819323198485))))

/-- the slots at the loop's head, and the small heap -/
def sumHead (h ix : Int) (o len cap : Nat) (j : Option Value) : XAct := [none, none, none, none, none, some (.int .u64 h), none, none, none, none, none, none, some (.slice (some ⟨0, o, none⟩) len cap), some (.int .i64 len), some (.int .i64 ix), j, none, none, none, none, none, none, none, none, none, none, none, none, none]
def sumHeap (cs : List Value) (ro : Bool) : St := { heap := PT.leaf.set 0 (some (.row cs 1 ro)), next := 1, glob := 0 }

noncomputable abbrev xc0 : XCall := xgoO Tryd.prog okN noOrc kp 100
theorem yx0 : YX yc0 xc0 := ygo_is noOrc kp 100
abbrev Run37 := Runs Tryd.prog okN xc0 (kp 37)

theorem wrap64 {n : Int} (h0 : 0 ≤ n) (h1 : n < 2 ^ 63) : IntKind.wrap .i64 n = n := by
  unfold IntKind.wrap
  have hb : IntKind.i64.bits = 64 := rfl
  have hs : IntKind.i64.signed = true := rfl
  rw [hb, hs]
  have hm : n % (2 ^ 64 : Int) = n := Int.emod_eq_of_lt h0 (by omega)
  rw [hm]
  have : ¬ (n ≥ (2 ^ (64 - 1) : Int)) := by omega
  simp only [Bool.true_and, decide_eq_true_eq, this, if_false]

theorem sum_loop {o len cap : Nat} {cs : List Value} {ro : Bool} (hlen : (len : Int) < 2 ^ 62) (hcs : o + len ≤ cs.length) (hb : ∀ i, i < len → isInt .u8 (cs.getD (o + i) undefX) = true) :
    ∀ (k i : Nat) (h : Int), i + k = len → ∃ h' j, Run37 (.loop (sub (codeOf Tryd.prog 37) [1,1,0,1,0,0])) (sumHead h i o len cap none) (sumHeap cs ro) (.exit 0) (sumHead h' len o len cap j) (sumHeap cs ro) ∧ h' = sumFrom h ((cs.drop (o + i)).take k)
  | 0, i, h, hk => by
    obtain rfl : i = len := by omega
    refine ⟨h, some (.bool (decide ((i : Int) < i))), ?_, by simp [sumFrom]⟩
    refine Runs.loop_exit (Runs.path yx0 (sumLast h i o i cap cs ro) ?_)
    have t1 : decide ((i : Int) < (i : Int)) = false := decide_eq_false (Int.lt_irrefl _)
    rw [t1]
    rfl
  | k + 1, i, h, hk => by
    have hi : i < len := by omega
    have hget : (cs.drop (o + i)).take (k + 1) = cs.getD (o + i) undefX :: (cs.drop (o + (i + 1))).take k := by
      rw [List.drop_eq_getElem_cons (by omega), List.take_succ_cons, List.getD_eq_getElem?_getD, List.getElem?_eq_getElem (by omega), Option.getD_some]
      rfl
    obtain ⟨h', j, h1, h2⟩ := sum_loop hlen hcs hb k (i + 1) (sumStep h (intOf (cs.getD (o + i) undefX))) (by omega)
    refine ⟨h', j, ?_, ?_⟩
    · have e : o + Int.toNat (i : Int) * 1 = o + i := by rw [Int.toNat_natCast, Nat.mul_one]
      have e2 : IntKind.wrap .i64 ((i : Int) + 1) = ((i + 1 : Nat) : Int) := by rw [wrap64 (by omega) (by omega)]; rfl
      have hr := sumRound h i o len cap cs ro
      rw [e, e2] at hr
      refine Runs.loop (Runs.path yx0 hr ?_) h1
      have t1 : decide ((i : Int) < (len : Int)) = true := decide_eq_true (by omega)
      have t2 : decide ((0 : Int) ≤ (i : Int)) = true := decide_eq_true (by omega)
      have t3 : decide (o + i < cs.length) = true := decide_eq_true (by omega)
      rw [t1, t2, t3, hb i hi]
      rfl
    · rw [h2, hget]; rfl

theorem code37 : codeOf Tryd.prog 37 = .seq (sub (codeOf Tryd.prog 37) [0]) (.seq (sub (codeOf Tryd.prog 37) [1,0]) (.seq (.seq (sub (codeOf Tryd.prog 37) [1,1,0,0]) (.block 0 (.loop (sub (codeOf Tryd.prog 37) [1,1,0,1,0,0])))) (sub (codeOf Tryd.prog 37) [1,1,1]))) := by kernel_rfl
theorem body37 : Tryd.f37.body = some (codeOf Tryd.prog 37) := by kernel_rfl

theorem sum_runs (at' : Int) {o len cap : Nat} {cs : List Value} {ro : Bool} (hlen : (len : Int) < 2 ^ 62) (hcs : o + len ≤ cs.length) (hb : ∀ i, i < len → isInt .u8 (cs.getD (o + i) undefX) = true) :
    ∃ a', Run37 (codeOf Tryd.prog 37) (startX Tryd.f37 [.int .i64 at', .slice (some ⟨0, o, none⟩) len cap]) (sumHeap cs ro) .ret a' (sumHeap cs ro) ∧
      xres Tryd.prog Tryd.f37 a' (sumHeap cs ro) = some (.int .u64 (sumFrom (sumSeed at') ((cs.drop o).take len))) := by
  obtain ⟨h', j, h1, h2⟩ := sum_loop (cap := cap) (ro := ro) hlen hcs hb len 0 (sumSeed at') (by omega)
  have post := Runs.path yx0 (sumPost h' len o len cap cs ro j) rfl
  have run := Runs.seq (Runs.path yx0 (sumPre0 at' o len cap cs ro) rfl) (Runs.seq (Runs.path yx0 (sumPre1 at' o len cap cs ro) rfl)
      (Runs.seq (Runs.seq (Runs.path yx0 (sumPre2 (sumSeed at') o len cap cs ro) rfl) (Runs.block_exit h1)) post))
  refine ⟨_, by rw [code37]; exact run, ?_⟩
  rw [Nat.add_zero] at h2
  rw [← h2]
  kernel_rfl
end Go.Xe
/-
  The sum of bytes at a place: a known function.
-/
set_option linter.unusedVariables false
namespace Go.Xe
open Go Go.Proofs

def sumF (args : List Value) (S : St) : Y (Value × St) :=
  match args with
  | [.int .i64 at', .slice (some ⟨b, o, none⟩) len cap] => match S.heap.get b with
    | some (.row cs 1 ro) => .req (decide (len < 4611686018427387904)) (.req (decide (o + len ≤ cs.length)) (.req (cs.all (isInt .u8)) (.pure (.int .u64 (sumFrom (sumSeed at') ((cs.drop o).take len)), S))))
    | _ => none
  | _ => none

theorem isInt_plain {k : IntKind} {v : Value} (h : isInt k v = true) : plain1 v = true := by
  cases v <;> first | rfl | (simp [isInt] at h; done)
theorem ints_plain {k : IntKind} {l : List Value} (h : l.all (isInt k) = true) : l.all plain1 = true := by
  rw [List.all_eq_true] at h ⊢
  exact fun v hv => isInt_plain (h v hv)

/-- A block at the number b, as the only one. -/
def pi1 (b : Nat) (S : St) : Nat → Nat := fun i => if i = 0 then b else S.next + (i - 1)
theorem emb1 {b : Nat} {S : St} {e : Ent} (hb : b < S.next) : Emb (pi1 b S) { heap := PT.leaf.set 0 (some e), next := 1, glob := 0 } S :=
  { inj := fun i j hi hj _ => by
      have h1 : i < 1 := hi
      have h2 : j < 1 := hj
      omega
    lt := fun i hi => by
      have h1 : i < 1 := hi
      obtain rfl : i = 0 := by omega
      simpa [pi1] using hb
    new := fun i hi => by
      have h1 : 1 ≤ i := hi
      show (if i = 0 then b else S.next + (i - 1)) = S.next + (i - 1)
      rw [if_neg (by omega)]
    glob := rfl }
theorem get1 {e x : Ent} {i : Nat} (h : (PT.leaf.set 0 (some e)).get i = some x) : i = 0 ∧ x = e := by
  rw [PT.get_set] at h
  split at h
  · rename_i hi; cases h; exact ⟨hi, rfl⟩
  · simp [PT.get] at h

/-- A function that looks at one block and leaves all as it is. -/
theorem one_block {P : Program} {f : FuncId} {b : Nat} {e : Ent} {α : Place} {S : St} {w : World} {v : Value} {args' : Array Value} (h : Rel α S w) (hb : S.heap.get b = some e) (he : ∀ π, RenE π e e) (hv : ∀ π, RenV π v v)
    (hc : Rel (fun i => α (pi1 b S i)) { heap := PT.leaf.set 0 (some e), next := 1, glob := 0 } w →
      Calls P f args' w fun x w' => ∃ β v', x = .returned v' ∧ Next (fun i => α (pi1 b S i)) { heap := PT.leaf.set 0 (some e), next := 1, glob := 0 } w β { heap := PT.leaf.set 0 (some e), next := 1, glob := 0 } w' ∧ VRel β v v') :
    Calls P f args' w fun x w' => ∃ β v', x = .returned v' ∧ Next α S w β S w' ∧ VRel β v v' := by
  have hlt := h.live_lt hb
  have hsm : ∀ i x, (PT.leaf.set 0 (some e)).get i = some x → i < 1 ∧ ∃ y, S.heap.get (pi1 b S i) = some y ∧ RenE (pi1 b S) x y := by
    intro i x hx
    obtain ⟨rfl, rfl⟩ := get1 hx
    exact ⟨by omega, x, by simpa [pi1] using hb, he _⟩
  refine (hc (h.small (emb1 hlt) hsm)).mono ?_
  rintro x w' ⟨β, v', rfl, hn, hvr⟩
  obtain ⟨γ, hg, hβ⟩ := hn.large (S' := S) h (emb1 hlt) hsm (by simp) rfl (fun k y hk => by
    by_cases hkb : k = b
    · subst hkb
      rw [hb] at hk; cases hk
      exact .inl ⟨0, e, by simp [pi1], by rw [PT.get_set_same], he _, fun _ => hb⟩
    · refine .inr ⟨hk, h.live_lt hk, fun i x hx => ?_⟩
      obtain ⟨rfl, _⟩ := get1 hx
      simpa [pi1] using hkb)
  exact ⟨γ, v', rfl, hg, (hv _ γ v').1 (by rw [← hβ]; exact hvr)⟩

theorem noOrc_sound : OrcSound Tryd.prog noOrc := fun f F h => by simp [noOrc] at h
theorem call0 : CallSound Tryd.prog xc0 := xgoO_sound mixed okN_ok okN_good noOrc_sound kp 100

theorem sumF_sound (args : List Value) (S : St) (v : Value) (S' : St) (hx : sumF args S = some (true, (v, S'))) (α : Place) (w : World) (args' : Array Value) (h : Rel α S w) (ha : LRel α args args'.toList) :
    Calls Tryd.prog 37 args' w fun e w' => ∃ β v', e = .returned v' ∧ Next α S w β S' w' ∧ VRel β v v' := by
  unfold sumF at hx
  split at hx
  · rename_i at' b o len cap
    split at hx
    · rename_i cs ro hb
      simp only [Y.req_is, Y.pure_is, decide_eq_true_eq, Prod.mk.injEq] at hx
      obtain ⟨h1, h2, h3, rfl, rfl⟩ := hx
      refine one_block h hb (fun π => .plain (ints_plain h3)) (fun π => .int _ _) (fun hr => ?_)
      have hbytes : ∀ i, i < len → isInt .u8 (cs.getD (o + i) undefX) = true := by
        intro i hi
        rw [List.getD_eq_getElem?_getD, List.getElem?_eq_getElem (by omega), Option.getD_some]
        exact List.all_eq_true.1 h3 _ (List.getElem_mem _)
      obtain ⟨a', hrun, hres⟩ := sum_runs at' (cap := cap) (ro := ro) (by omega) h2 hbytes
      have hl : LRel (fun i => α (pi1 b S i)) [.int .i64 at', .slice (some ⟨0, o, none⟩) len cap] args'.toList :=
        (RenL.lrel (π := pi1 b S) (.cons (.int _ _) (.cons (.slice 0 o len cap) .nil)) α _).2 (by simpa [pi1] using ha)
      exact Runs.calls mixed okN_ok call0 Tryd.func37 body37 (okN_good 37 _ _ rfl Tryd.func37 body37) hrun (.inr rfl) hres hr hl
    · cases hx
  · cases hx
end Go.Xe
/-
  Paths: what the code of each function comes to along them (printed by emit.py).
-/
set_option linter.unusedVariables false
namespace Go.Xe
open Go Go.Proofs

theorem getPre0 (o len cap : Nat) (cs : List Value) (ro : Bool) : ycode Tryd.prog okN yc0 (kp 34) 100 (sub (codeOf Tryd.prog 34) [0]) (startX Tryd.f34 [.slice (some ⟨0, o, none⟩) len cap]) { heap := PT.leaf.set 0 (some (.row cs 1 ro)), next := 1, glob := 0 } [] = some (true, ((XE.normal, [some (Value.slice (some { block := 0, off := o : Addr }) len cap), none, none, none, none, none, none, none, none, none, none, none, none, none, none, none, none, none, none, none, none, none], { heap := PT.node PT.leaf (some (Ent.row cs 1 ro)) PT.leaf, next := 1, glob := 0 : St }), [])) := by kernel_rfl
theorem getPre1 (o len cap : Nat) (cs : List Value) (ro : Bool) : ycode Tryd.prog okN yc0 (kp 34) 100 (sub (codeOf Tryd.prog 34) [1,0]) [some (.slice (some ⟨0, o, none⟩) len cap), none, none, none, none, none, none, none, none, none, none, none, none, none, none, none, none, none, none, none, none, none] { heap := PT.leaf.set 0 (some (.row cs 1 ro)), next := 1, glob := 0 } [] = some (true, ((XE.normal, [some (Value.slice (some { block := 0, off := o : Addr }) len cap), none, none, some (Value.int IntKind.u64 0), none, none, none, none, none, none, none, none, none, none, none, none, none, none, none, none, none, none], { heap := PT.node PT.leaf (some (Ent.row cs 1 ro)) PT.leaf, next := 1, glob := 0 : St }), [])) := by kernel_rfl
theorem getPre2 (h : Int) (o len cap : Nat) (cs : List Value) (ro : Bool) : ycode Tryd.prog okN yc0 (kp 34) 100 (sub (codeOf Tryd.prog 34) [1,1,0,0]) [some (.slice (some ⟨0, o, none⟩) len cap), none, none, some (.int .u64 h), none, none, none, none, none, none, none, none, none, none, none, none, none, none, none, none, none, none] { heap := PT.leaf.set 0 (some (.row cs 1 ro)), next := 1, glob := 0 } [] = some (true, ((XE.normal, [none, none, none, some (Value.int IntKind.u64 h), none, none, some (Value.slice (some { block := 0, off := o : Addr }) len cap), some (Value.int IntKind.i64 ↑len), some (Value.int IntKind.i64 0), none, none, none, none, none, none, none, none, none, none, none, none, none], { heap := PT.node PT.leaf (some (Ent.row cs 1 ro)) PT.leaf, next := 1, glob := 0 : St }), [])) := by kernel_rfl
theorem getRound (h ix : Int) (o len cap : Nat) (cs : List Value) (ro : Bool) : ycode Tryd.prog okN yc0 (kp 34) 100 (sub (codeOf Tryd.prog 34) [1,1,0,1,0,0]) [none, none, none, some (.int .u64 h), none, none, some (.slice (some ⟨0, o, none⟩) len cap), some (.int .i64 len), some (.int .i64 ix), none, none, none, none, none, none, none, none, none, none, none, none, none] { heap := PT.leaf.set 0 (some (.row cs 1 ro)), next := 1, glob := 0 } [true] = some (decide (ix < ↑len) && true && (decide (0 ≤ ix) && (decide (ix < ↑len) && true) && true && true && (decide (o + Int.toNat ix * 1 < List.length cs) && true && (isInt IntKind.u8 (List.getD cs (o + Int.toNat ix * 1) undefX) && true) && true && true && true) && true && (!decide (IntKind.wrap IntKind.i64 (8 * ix) < 0) && true && true && true && true && true) && true && true), ((XE.normal, [none, none, none, some (Value.int IntKind.u64 (IntKind.wrap IntKind.u64 ↑(BitVec.toNat (BitVec.ofInt 64 h ||| BitVec.ofInt 64 (IntKind.wrap IntKind.u64 (IntKind.wrap IntKind.u64 (intOf (List.getD cs (o + Int.toNat ix * 1) undefX)) * 2 ^ min (Int.toNat (IntKind.wrap IntKind.i64 (8 * ix))) 64)))))), none, none, some (Value.slice (some { block := 0, off := o : Addr }) len cap), some (Value.int IntKind.i64 ↑len), some (Value.int IntKind.i64 (IntKind.wrap IntKind.i64 (ix + 1))), none, none, none, none, none, none, none, none, none, none, none, none, none], { heap := PT.node PT.leaf (some (Ent.row cs 1 ro)) PT.leaf, next := 1, glob := 0 : St }), [])) := by kernel_rfl
theorem getLast (h ix : Int) (o len cap : Nat) (cs : List Value) (ro : Bool) : ycode Tryd.prog okN yc0 (kp 34) 100 (sub (codeOf Tryd.prog 34) [1,1,0,1,0,0]) [none, none, none, some (.int .u64 h), none, none, some (.slice (some ⟨0, o, none⟩) len cap), some (.int .i64 len), some (.int .i64 ix), none, none, none, none, none, none, none, none, none, none, none, none, none] { heap := PT.leaf.set 0 (some (.row cs 1 ro)), next := 1, glob := 0 } [false] = some (!decide (ix < ↑len) && true && true, ((XE.exit 0, [none, none, none, some (Value.int IntKind.u64 h), none, none, some (Value.slice (some { block := 0, off := o : Addr }) len cap), some (Value.int IntKind.i64 ↑len), some (Value.int IntKind.i64 ix), some (Value.bool (decide (ix < ↑len))), none, none, none, none, none, none, none, none, none, none, none, none], { heap := PT.node PT.leaf (some (Ent.row cs 1 ro)) PT.leaf, next := 1, glob := 0 : St }), [])) := by kernel_rfl
theorem getPost (h ix : Int) (o len cap : Nat) (cs : List Value) (ro : Bool) (j : Option Value) : ycode Tryd.prog okN yc0 (kp 34) 100 (sub (codeOf Tryd.prog 34) [1,1,1]) [none, none, none, some (.int .u64 h), none, none, some (.slice (some ⟨0, o, none⟩) len cap), some (.int .i64 len), some (.int .i64 ix), j, none, none, none, none, none, none, none, none, none, none, none, none] { heap := PT.leaf.set 0 (some (.row cs 1 ro)), next := 1, glob := 0 } [] = some (true, ((XE.ret, [none, none, some (Value.int IntKind.u64 h), none, none, none, none, none, none, none, none, none, none, none, none, none, none, none, none, none, none, none], { heap := PT.node PT.leaf (some (Ent.row cs 1 ro)) PT.leaf, next := 1, glob := 0 : St }), [])) := by kernel_rfl
end Go.Xe
/-
  A number of bytes, the lowest first: a known function.
-/
set_option linter.unusedVariables false
namespace Go.Xe
open Go Go.Proofs

def getStep (h : Int) (i : Nat) (b : Int) : Int :=
  IntKind.wrap IntKind.u64 ↑(BitVec.toNat (BitVec.ofInt 64 h ||| BitVec.ofInt 64 (IntKind.wrap IntKind.u64 (IntKind.wrap IntKind.u64 b * 2 ^ min (8 * i) 64))))
def getFrom (h : Int) (i : Nat) : List Value → Int
  | [] => h
  | v :: r => getFrom (getStep h i (intOf v)) (i + 1) r

def getHead (h ix : Int) (o len cap : Nat) (j : Option Value) : XAct := [none, none, none, some (.int .u64 h), none, none, some (.slice (some ⟨0, o, none⟩) len cap), some (.int .i64 len), some (.int .i64 ix), j, none, none, none, none, none, none, none, none, none, none, none, none]
abbrev Run34 := Runs Tryd.prog okN xc0 (kp 34)

theorem get_loop {o len cap : Nat} {cs : List Value} {ro : Bool} (hlen : (len : Int) < 2 ^ 59) (hcs : o + len ≤ cs.length) (hb : ∀ i, i < len → isInt .u8 (cs.getD (o + i) undefX) = true) :
    ∀ (k i : Nat) (h : Int), i + k = len → ∃ h' j, Run34 (.loop (sub (codeOf Tryd.prog 34) [1,1,0,1,0,0])) (getHead h i o len cap none) (sumHeap cs ro) (.exit 0) (getHead h' len o len cap j) (sumHeap cs ro) ∧ h' = getFrom h i ((cs.drop (o + i)).take k)
  | 0, i, h, hk => by
    obtain rfl : i = len := by omega
    refine ⟨h, some (.bool (decide ((i : Int) < i))), ?_, by simp [getFrom]⟩
    refine Runs.loop_exit (Runs.path yx0 (getLast h i o i cap cs ro) ?_)
    have t1 : decide ((i : Int) < (i : Int)) = false := decide_eq_false (Int.lt_irrefl _)
    rw [t1]
    rfl
  | k + 1, i, h, hk => by
    have hi : i < len := by omega
    have hget : (cs.drop (o + i)).take (k + 1) = cs.getD (o + i) undefX :: (cs.drop (o + (i + 1))).take k := by
      rw [List.drop_eq_getElem_cons (by omega), List.take_succ_cons, List.getD_eq_getElem?_getD, List.getElem?_eq_getElem (by omega), Option.getD_some]
      rfl
    obtain ⟨h', j, h1, h2⟩ := get_loop hlen hcs hb k (i + 1) (getStep h i (intOf (cs.getD (o + i) undefX))) (by omega)
    refine ⟨h', j, ?_, ?_⟩
    · have e : o + Int.toNat (i : Int) * 1 = o + i := by rw [Int.toNat_natCast, Nat.mul_one]
      have e2 : IntKind.wrap .i64 ((i : Int) + 1) = ((i + 1 : Nat) : Int) := by rw [wrap64 (by omega) (by omega)]; rfl
      have e3 : IntKind.wrap .i64 (8 * (i : Int)) = ((8 * i : Nat) : Int) := by rw [wrap64 (by omega) (by omega)]; rfl
      have hr := getRound h i o len cap cs ro
      rw [e, e2, e3, Int.toNat_natCast] at hr
      refine Runs.loop (Runs.path yx0 hr ?_) h1
      have t1 : decide ((i : Int) < (len : Int)) = true := decide_eq_true (by omega)
      have t2 : decide ((0 : Int) ≤ (i : Int)) = true := decide_eq_true (by omega)
      have t3 : decide (o + i < cs.length) = true := decide_eq_true (by omega)
      have t4 : decide (((8 * i : Nat) : Int) < 0) = false := decide_eq_false (by omega)
      rw [t1, t2, t3, t4, hb i hi]
      rfl
    · rw [h2, hget]; rfl

theorem code34 : codeOf Tryd.prog 34 = .seq (sub (codeOf Tryd.prog 34) [0]) (.seq (sub (codeOf Tryd.prog 34) [1,0]) (.seq (.seq (sub (codeOf Tryd.prog 34) [1,1,0,0]) (.block 0 (.loop (sub (codeOf Tryd.prog 34) [1,1,0,1,0,0])))) (sub (codeOf Tryd.prog 34) [1,1,1]))) := by kernel_rfl
theorem body34 : Tryd.f34.body = some (codeOf Tryd.prog 34) := by kernel_rfl

theorem get_runs {o len cap : Nat} {cs : List Value} {ro : Bool} (hlen : (len : Int) < 2 ^ 59) (hcs : o + len ≤ cs.length) (hb : ∀ i, i < len → isInt .u8 (cs.getD (o + i) undefX) = true) :
    ∃ a', Run34 (codeOf Tryd.prog 34) (startX Tryd.f34 [.slice (some ⟨0, o, none⟩) len cap]) (sumHeap cs ro) .ret a' (sumHeap cs ro) ∧
      xres Tryd.prog Tryd.f34 a' (sumHeap cs ro) = some (.int .u64 (getFrom 0 0 ((cs.drop o).take len))) := by
  obtain ⟨h', j, h1, h2⟩ := get_loop (cap := cap) (ro := ro) hlen hcs hb len 0 0 (by omega)
  have post := Runs.path yx0 (getPost h' len o len cap cs ro j) rfl
  have run := Runs.seq (Runs.path yx0 (getPre0 o len cap cs ro) rfl) (Runs.seq (Runs.path yx0 (getPre1 o len cap cs ro) rfl)
      (Runs.seq (Runs.seq (Runs.path yx0 (getPre2 0 o len cap cs ro) rfl) (Runs.block_exit h1)) post))
  refine ⟨_, by rw [code34]; exact run, ?_⟩
  rw [Nat.add_zero] at h2
  rw [← h2]
  kernel_rfl

def getF (args : List Value) (S : St) : Y (Value × St) :=
  match args with
  | [.slice (some ⟨b, o, none⟩) len cap] => match S.heap.get b with
    | some (.row cs 1 ro) => .req (decide (len < 576460752303423488)) (.req (decide (o + len ≤ cs.length)) (.req (cs.all (isInt .u8)) (.pure (.int .u64 (getFrom 0 0 ((cs.drop o).take len)), S))))
    | _ => none
  | _ => none

theorem getF_sound (args : List Value) (S : St) (v : Value) (S' : St) (hx : getF args S = some (true, (v, S'))) (α : Place) (w : World) (args' : Array Value) (h : Rel α S w) (ha : LRel α args args'.toList) :
    Calls Tryd.prog 34 args' w fun e w' => ∃ β v', e = .returned v' ∧ Next α S w β S' w' ∧ VRel β v v' := by
  unfold getF at hx
  split at hx
  · rename_i b o len cap
    split at hx
    · rename_i cs ro hb
      simp only [Y.req_is, Y.pure_is, decide_eq_true_eq, Prod.mk.injEq] at hx
      obtain ⟨h1, h2, h3, rfl, rfl⟩ := hx
      refine one_block h hb (fun π => .plain (ints_plain h3)) (fun π => .int _ _) (fun hr => ?_)
      have hbytes : ∀ i, i < len → isInt .u8 (cs.getD (o + i) undefX) = true := by
        intro i hi
        rw [List.getD_eq_getElem?_getD, List.getElem?_eq_getElem (by omega), Option.getD_some]
        exact List.all_eq_true.1 h3 _ (List.getElem_mem _)
      obtain ⟨a', hrun, hres⟩ := get_runs (cap := cap) (ro := ro) (by omega) h2 hbytes
      have hl : LRel (fun i => α (pi1 b S i)) [.slice (some ⟨0, o, none⟩) len cap] args'.toList :=
        (RenL.lrel (π := pi1 b S) (.cons (.slice 0 o len cap) .nil) α _).2 (by simpa [pi1] using ha)
      exact Runs.calls mixed okN_ok call0 Tryd.func34 body34 (okN_good 34 _ _ rfl Tryd.func34 body34) hrun (.inr rfl) hres hr hl
    · cases hx
  · cases hx
end Go.Xe
