/-
  The engine with unknown contents, part a: definitions. What hangs on lengths, places and whole numbers is not decided but noted; what branches is told by a path.
-/
import Derived.Test.YtkhjbbigangbdaaDoorM06
set_option linter.unusedVariables false
namespace Go.Xe
open Go

/-- A result, if what is noted holds. -/
abbrev Y (β : Type) := Option (Bool × β)
namespace Y
variable {β γ : Type}
def pure (b : β) : Y β := some (true, b)
def req (c : Bool) (x : Y β) : Y β :=
  match x with
  | some (d, b) => some (c && d, b)
  | none => none
def bind (x : Y β) (f : β → Y γ) : Y γ :=
  match x with
  | some (c, b) => req c (f b)
  | none => none
def of (x : Option β) : Y β :=
  match x with
  | some b => some (true, b)
  | none => none
end Y

def intOf : Value → Int
  | .int _ n => n
  | _ => 0
def boolOf : Value → Bool
  | .bool b => b
  | _ => false
def strOf : Value → ByteArray
  | .string s => s
  | _ => ⟨#[]⟩
def isInt (k : IntKind) : Value → Bool
  | .int l _ => decide (k = l)
  | _ => false
def isBool : Value → Bool
  | .bool _ => true
  | _ => false
def isStr : Value → Bool
  | .string _ => true
  | _ => false

namespace St
def yloadN (S : St) (i o n : Nat) : Y (List Value) :=
  match S.heap.get i with
  | some (.row cs _ _) => .req (decide (o + n ≤ cs.length)) (.pure ((cs.drop o).take n))
  | _ => Option.none
def yload1 (S : St) (i o : Nat) : Y Value :=
  match S.heap.get i with
  | some (.row cs _ _) => .req (decide (o < cs.length)) (.pure (cs.getD o undefX))
  | _ => Option.none
def ystoreN (S : St) (i o : Nat) (vs : List Value) : Y St :=
  match S.heap.get i with
  | some (.row cs esz false) => .req (decide (o + vs.length ≤ cs.length)) (.req (vs.all one) (.pure (S.put i (.row (splice cs o vs) esz false))))
  | _ => Option.none
def ystore1 (S : St) (i o : Nat) (v : Value) : Y St :=
  match S.heap.get i with
  | some (.row cs esz false) => .req (decide (o < cs.length)) (.req (one v) (.pure (S.put i (.row (cs.set o v) esz false))))
  | _ => Option.none
def yrow (S : St) (cs : List Value) (esz : Nat) : Y St := .req (cs.all one) (.pure (S.new (.row cs esz false)))
end St

section
variable (P : Program)

/-- A cell's value at its type. -/
def ywrap (t : TypeId) (v : Value) : Y Value :=
  match P.underlying t with
  | some (.int k) => .req (isInt k v) (.pure (.int k (intOf v)))
  | some .bool => .req (isBool v) (.pure (.bool (boolOf v)))
  | some .string => .req (isStr v) (.pure (.string (strOf v)))
  | _ => .pure v

def yload (S : St) (t : TypeId) (a : Value) : Y Value :=
  match a with
  | .pointer (some ⟨i, o, none⟩) =>
    match aggT P t with
    | some true => match sizeT P t with
      | some n => (S.yloadN i o n).bind fun l => .pure (.agg l.toArray)
      | none => none
    | some false => (S.yload1 i o).bind fun v => ywrap P t v
    | none => none
  | _ => none

def ystore (S : St) (t : TypeId) (a v : Value) : Y St :=
  match a with
  | .pointer (some ⟨i, o, none⟩) =>
    match v with
    | .agg cs => if sizeT P t = some cs.size then S.ystoreN i o cs.toList else none
    | v => if sizeT P t = some 1 then S.ystore1 i o v else none
  | _ => none

def ynewVar (S : St) (t : TypeId) (v : Value) : Y (Value × St) :=
  (S.yrow v.cells.toList (eszT P t)).bind fun S' => .pure (.pointer (some ⟨S.next, 0, none⟩), S')

def ybuildSlice (S : St) (t : TypeId) (len : Nat) (parts : List (Nat × Value)) : Y (Value × St) :=
  match P.underlying t with
  | some (.slice elem) => match sizeT P elem, zeroT P elem with
    | some size, some z =>
      if len * size > 2 ^ 24 ∨ size = 0 ∨ z.cells.size ≠ size then none else
      match xfill (fun i => some (i * size, size)) (zerosL z.cells.toList len) parts with
      | some l => (S.yrow l size).bind fun S' => .pure (.slice (some ⟨S.next, 0, none⟩) len len, S')
      | none => none
    | _, _ => none
  | _ => none

def ymakeSlice (S : St) (t : TypeId) (l c : Value) : Y (Value × St) :=
  match l, c with
  | .int _ len, .int _ cap =>
    match P.underlying t with
    | some (.slice elem) => match sizeT P elem, bytesT P elem, zeroT P elem with
      | some size, some bytes, some z =>
        if size ≠ 0 ∧ z.cells.size = size then
          .req (decide (IntKind.i64.wrap len = len)) (.req (decide (IntKind.i64.wrap cap = cap)) (.req (decide (0 ≤ len)) (.req (decide (len ≤ cap)) (.req (decide (bytes * cap.toNat ≤ 281474976710656))
            ((S.yrow (zerosL z.cells.toList cap.toNat) size).bind fun S' => .pure (.slice (some ⟨S.next, 0, none⟩) len.toNat cap.toNat, S'))))))
        else none
      | _, _, _ => none
    | _ => none
  | _, _ => none

def yindexAddr (t : TypeId) (x ix : Value) : Y Value :=
  match ix with
  | .int _ i => match P.underlying t, x with
    | some (.slice elem), .slice (some ⟨b, o, none⟩) len _ => match sizeT P elem with
        | some s => .req (decide (0 ≤ i)) (.req (decide (i < (len : Int))) (.pure (.pointer (some ⟨b, o + i.toNat * s, none⟩))))
        | none => none
    | some (.array len elem), .pointer (some ⟨b, o, none⟩) => match sizeT P elem with
        | some s => .req (decide (0 ≤ i)) (.req (decide (i < (len : Int))) (.pure (.pointer (some ⟨b, o + i.toNat * s, none⟩))))
        | none => none
    | _, _ => none
  | _ => none

def yindex (t : TypeId) (x ix : Value) : Y Value :=
  match ix with
  | .int _ i => match P.underlying t, x with
    | some .string, .string s => .req (decide (0 ≤ i)) (.req (decide (i.toNat < s.data.toList.length)) (.pure (.int .u8 (s.data.toList.getD i.toNat 0).toNat)))
    | _, _ => .of (xindex P t x ix)
  | _ => none

def yb (d top : Nat) : Option Value → Y Nat
  | none => .pure d
  | some (.int _ i) => .req (decide (0 ≤ i)) (.req (decide (i ≤ (top : Int))) (.pure i.toNat))
  | some _ => none
def ybounds (len cap : Nat) (lo hi mx : Option Value) : Y (Nat × Nat × Nat) :=
  Y.bind (yb cap cap mx) fun m => Y.bind (if hi.isNone && mx.isSome then none else yb len m hi) fun h => Y.bind (yb 0 h lo) fun l => Y.pure (l, h, m)

def yslice (S : St) (t : TypeId) (x : Value) (lo hi mx : Option Value) : Y Value :=
  match P.underlying t, x with
  | some .string, .string s =>
    if mx.isSome then none else
    (ybounds s.data.toList.length s.data.toList.length lo hi none).bind fun b => .pure (.string ⟨((s.data.toList.take b.2.1).drop b.1).toArray⟩)
  | some (.slice elem), .slice (some ⟨b, o, none⟩) len cap =>
    match sizeT P elem, S.heap.get b with
    | some s, some (.row _ esz _) => if esz = s ∧ s ≠ 0 then (ybounds len cap lo hi mx).bind fun r => .pure (.slice (some ⟨b, o + r.1 * s, none⟩) (r.2.1 - r.1) (r.2.2 - r.1)) else none
    | _, _ => none
  | _, _ => .of (xslice P S t x lo hi mx)

def yint (op : BinOp) (k : IntKind) (a b : Int) : Y Value :=
  match op with
  | .quo => .req (!decide (b = 0)) (.pure (.int k (k.wrap (a.tdiv b))))
  | .rem => .req (!decide (b = 0)) (.pure (.int k (a.tmod b)))
  | _ => .of (xint op k a b)

def yshift (op : BinOp) (k : IntKind) (x y : Int) : Y Value :=
  match op with
  | .shl => .req (!decide (y < 0)) (.pure (.int k (k.wrap (x * 2 ^ min y.toNat k.bits))))
  | .shr => .req (!decide (y < 0)) (.pure (.int k (x.fdiv (2 ^ min y.toNat k.bits))))
  | _ => none

def ystr (op : BinOp) (x y : ByteArray) : Y Value :=
  match op with
  | .add => .req (decide (x.data.toList.length + y.data.toList.length ≤ 9223372036854775807)) (.pure (.string ⟨(x.data.toList ++ y.data.toList).toArray⟩))
  | _ => .of (xstr op x y)

/-- fields that are compared: all must answer -/
def yeqF (eq : TypeId → Value → Value → Option Bool) : List Field → List Value → List Value → Option Bool
  | [], _, _ => some true
  | f :: r, xs, ys =>
    if f.name = "_" then yeqF eq r xs ys else
    match xpart P f.type xs f.offset, xpart P f.type ys f.offset with
    | some a, some b => match eq f.type a b, yeqF eq r xs ys with
      | some b, some c => some (b && c)
      | _, _ => none
    | _, _ => none

def yeq (d : Nat) (t : TypeId) (x y : Value) : Option Bool :=
  match P.underlying t, x, y with
  | some (.struct fields), .agg xs, .agg ys => if P.stoodInHeld t then none else yeqF P (xeq P d) fields.toList xs.toList ys.toList
  | _, _, _ => xeq P (d + 1) t x y

def ybin (op : BinOp) (t : TypeId) (c : Bool) (x y : Value) : Y Value :=
  match op, x, y with
  | .shl, .int k a, .int _ b => yshift .shl k a b
  | .shr, .int k a, .int _ b => yshift .shr k a b
  | op, .int k a, .int k' b => if k = k' then yint op k a b else none
  | op, .string a, .string b => ystr op a b
  | .eql, .agg x, .agg y => if eqOk P t c (.agg x) (.agg y) then (match yeq P 11 t (.agg x) (.agg y) with | some b => .pure (.bool b) | none => none) else none
  | .neq, .agg x, .agg y => if eqOk P t c (.agg x) (.agg y) then (match yeq P 11 t (.agg x) (.agg y) with | some b => .pure (.bool (!b)) | none => none) else none
  | _, _, _ => .of (xbin P op t c x y)

def bytesOf (l : List Value) : List UInt8 := l.map fun v => UInt8.ofNat (intOf v).toNat

/-- the first cells of what is appended or copied; z: there are none -/
def yfirst (S : St) (size n : Nat) (x : Value) (z : Bool) : Y (List Value) :=
  if z then .req (decide (n = 0)) (.pure []) else
  .req (!decide (n = 0)) (match x with
  | .slice (some ⟨b, o, none⟩) _ _ => S.yloadN b o (n * size)
  | .string s => if size = 1 then .pure (byteVals (s.data.toList.take n)) else none
  | _ => none)

def yconvert (S : St) (src dst : TypeId) (x : Value) (z : Bool) : Y (Value × St) :=
  match P.underlying src, P.underlying dst, x with
  | some (.slice e), some .string, .slice (some ⟨b, o, none⟩) len _ =>
    match P.underlying e with
    | some (.int .u8) =>
      if z then .req (decide (len = 0)) (.pure (.string ⟨#[]⟩, S)) else
      .req (!decide (len = 0)) (match S.heap.get b with
      | some (.row _ esz _) => if esz = 1 then (S.yloadN b o len).bind fun l => .req (l.all (isInt .u8)) (.pure (.string ⟨(bytesOf l).toArray⟩, S)) else none
      | _ => none)
    | _ => none
  | some _, some (.slice e), .string s =>
    match P.underlying e with
    | some (.int .u8) => (S.yrow (byteVals s.data.toList) 1).bind fun S' => .pure (.slice (some ⟨S.next, 0, none⟩) s.data.toList.length s.data.toList.length, S')
    | _ => none
  | _, _, _ => .of (xconvert P S src dst x)

/-- z: nothing is appended; f: it fits -/
def yappend (S : St) (ts : List TypeId) (args : List Value) (z f : Bool) : Y (Value × St) :=
  match ts, args with
  | [t, u], [s, x] =>
    match P.underlying t, P.underlying u with
    | some (.slice _), some (.int _) => none
    | some (.slice elem), some _ =>
      match sizeT P elem, bytesT P elem, zeroT P elem, xlenOf x with
      | some size, some bytes, some zv, some n =>
        if size = 0 ∨ zv.cells.size ≠ size then none else
        (yfirst S size n x z).bind fun new =>
          match s with
          | .slice none 0 0 =>
            if z then .pure (.slice none 0 0, S) else
            .req (decide (n * bytes ≤ 140737488355328)) (.req (decide (n ≤ 9223372036854775807)) ((S.yrow new size).bind fun S' => .pure (.slice (some ⟨S.next, 0, none⟩) n n, S')))
          | .slice (some ⟨b, o, none⟩) len cap =>
            match S.heap.get b with
            | some (.row cs esz ro) =>
              if esz ≠ size ∨ ro = true then none else
              .req (decide (len ≤ cap)) (
              if z then .pure (.slice (some ⟨b, o, none⟩) len cap, S) else
              if f then .req (decide (len + n ≤ cap)) ((S.ystoreN b (o + len * size) new).bind fun S' => .pure (.slice (some ⟨b, o, none⟩) (len + n) cap, S'))
              else .req (!decide (len + n ≤ cap)) (.req (decide ((len + n) * bytes ≤ 140737488355328)) (.req (decide (len + n ≤ 9223372036854775807)) (.req (decide (o + len * size ≤ cs.length))
                (((S.kill b).yrow ((cs.drop o).take (len * size) ++ new) size).bind fun S' => .pure (.slice (some ⟨S.next, 0, none⟩) (len + n) (len + n), S'))))))
            | _ => none
          | _ => none
      | _, _, _, _ => none
    | _, _ => none
  | _, _ => none

/-- z: nothing is copied; f: the source is the shorter one, or both are as long -/
def ycopy (S : St) (ts : List TypeId) (args : List Value) (z f : Bool) : Y (Value × St) :=
  match ts, args with
  | t :: _, [d, x] =>
    match P.underlying t with
    | some (.slice elem) =>
      match sizeT P elem, xlenOf x, d with
      | some size, some n, .slice (some ⟨b, o, none⟩) len _ =>
        if size = 0 then none else
        .req (if f then decide (n ≤ len) else decide (len ≤ n)) (
        (yfirst S size (if f then n else len) x z).bind fun l => if z then .pure (.int .i64 0, S) else
          (S.ystoreN b o l).bind fun S' => .pure (.int .i64 ((if f then n else len : Nat) : Int), S'))
      | _, _, _ => .of (xcopy P S ts args)
    | _ => none
  | _, _ => none

def ybuiltin (S : St) (b : Builtin) (ts : List TypeId) (args : List Value) (z f : Bool) : Y (Value × St) :=
  match b with
  | .append => yappend P S ts args z f
  | .copy => ycopy P S ts args z f
  | b => .of (xbuiltin P S b ts args)

def yval (S : St) (x : Y Value) : Y (Res × St) := x.bind fun v => .pure (.val v, S)
def yvals (x : Y (Value × St)) : Y (Res × St) := x.bind fun v => .pure (.val v.1, v.2)
def yskips (x : Y St) : Y (Res × St) := x.bind fun S => .pure (.skip, S)

/-- One operation. z, f: what the path says of it. -/
def yop (okF : FuncId → Bool) (S : St) (ρ : Operand → Option Value) (o : Oper) (z f : Bool) : Y (Res × St) :=
  match o.op with
  | .pick c a b => match ρ c with
    | some (.bool q) => .req (if z then q else !q) (yval S (.of (if z then ρ a else ρ b)))
    | _ => none
  | .alloc e => match zeroT P e with
    | some v => yvals (ynewVar P S e v)
    | none => none
  | .box e x => match ρ x with
    | some v => yvals (ynewVar P S e v)
    | none => none
  | .buildSlice t len parts => match mapP ρ parts.toList with
    | some l => yvals (ybuildSlice P S t len l)
    | none => none
  | .load t a => match ρ a with
    | some v => yval S (yload P S t v)
    | none => none
  | .store t a x => match ρ a, ρ x with
    | some v, some u => yskips (ystore P S t v u)
    | _, _ => none
  | .binOp op t x y _ => match ρ x, ρ y with
    | some v, some u => yval S (ybin P op t (isConst x || isConst y) v u)
    | _, _ => none
  | .convert s d x => match ρ x with
    | some v => yvals (yconvert P S s d v z)
    | none => none
  | .makeSlice t l c => match ρ l, ρ c with
    | some v, some u => yvals (ymakeSlice P S t v u)
    | _, _ => none
  | .slice t x lo hi mx => match ρ x, optO ρ lo, optO ρ hi, optO ρ mx with
    | some v, some l, some h, some m => yval S (yslice P S t v l h m)
    | _, _, _, _ => none
  | .indexAddr t x i => match ρ x, ρ i with
    | some v, some u => yval S (yindexAddr P t v u)
    | _, _ => none
  | .index t x i => match ρ x, ρ i with
    | some v, some u => yval S (yindex P t v u)
    | _, _ => none
  | .call c => match mapO ρ c.args.toList with
    | none => none
    | some args => match c.callee with
      | .builtin b => yvals (ybuiltin P S b c.argTypes.toList args z f)
      | _ => .of (xop P okF S ρ o)
  | _ => .of (xop P okF S ρ o)
end
end Go.Xe
/-
  The engine with unknown contents, part b: each operation is the engine's, if what is noted holds.
-/
set_option linter.unusedSimpArgs false
set_option linter.unusedVariables false
namespace Go.Xe
open Go

namespace Y
variable {β γ : Type}
theorem pure_is {a b : β} : (pure a = some (true, b)) = (a = b) := by
  simp [pure]
theorem req_is {c : Bool} {x : Y β} {b : β} : (req c x = some (true, b)) = (c = true ∧ x = some (true, b)) := by
  unfold req
  cases x with
  | none => simp
  | some p => obtain ⟨d, e⟩ := p; simp [and_assoc]
theorem bind_is {x : Y β} {f : β → Y γ} {r : γ} : (bind x f = some (true, r)) = ∃ b, x = some (true, b) ∧ f b = some (true, r) := by
  unfold bind
  cases x with
  | none => simp
  | some p =>
    obtain ⟨d, e⟩ := p
    simp only [req_is, Option.some.injEq, Prod.mk.injEq, eq_iff_iff]
    constructor
    · rintro ⟨h1, h2⟩; exact ⟨e, ⟨h1, rfl⟩, h2⟩
    · rintro ⟨b, ⟨h1, rfl⟩, h2⟩; exact ⟨h1, h2⟩
theorem of_is {x : Option β} {b : β} : (of x = some (true, b)) = (x = some b) := by
  unfold of
  cases x <;> simp
end Y

theorem intOf_is {k : IntKind} {v : Value} (h : isInt k v = true) : Value.int k (intOf v) = v := by
  cases v <;> simp_all [isInt, intOf]
theorem boolOf_is {v : Value} (h : isBool v = true) : Value.bool (boolOf v) = v := by
  cases v <;> simp_all [isBool, boolOf]
theorem strOf_is {v : Value} (h : isStr v = true) : Value.string (strOf v) = v := by
  cases v <;> simp_all [isStr, strOf]

section
variable {P : Program} {S S' : St}

theorem yloadN_is {i o n : Nat} {l : List Value} (h : S.yloadN i o n = some (true, l)) : S.loadN i o n = some l := by
  unfold St.yloadN at h; unfold St.loadN
  split at h
  · rename_i hg
    simp only [Y.req_is, Y.pure_is, decide_eq_true_eq] at h
    rw [hg]
    simp only [h.1, if_true, h.2]
  · cases h
theorem yload1_is {i o : Nat} {v : Value} (h : S.yload1 i o = some (true, v)) : S.load1 i o = some v := by
  unfold St.yload1 at h; unfold St.load1
  split at h
  · rename_i hg
    simp only [Y.req_is, Y.pure_is, decide_eq_true_eq] at h
    obtain ⟨h1, rfl⟩ := h
    rw [hg]
    simp only [List.getD_eq_getElem?_getD, List.getElem?_eq_getElem h1, Option.getD_some]
  · cases h
theorem ystoreN_is {i o : Nat} {vs : List Value} (h : S.ystoreN i o vs = some (true, S')) : S.storeN i o vs = some S' := by
  unfold St.ystoreN at h; unfold St.storeN
  split at h
  · rename_i hg
    simp only [Y.req_is, Y.pure_is, decide_eq_true_eq] at h
    obtain ⟨h1, h2, rfl⟩ := h
    rw [hg]
    simp only []
    rw [if_pos ⟨h1, h2⟩]
  · cases h
theorem ystore1_is {i o : Nat} {v : Value} (h : S.ystore1 i o v = some (true, S')) : S.store1 i o v = some S' := by
  unfold St.ystore1 at h; unfold St.store1
  split at h
  · rename_i hg
    simp only [Y.req_is, Y.pure_is, decide_eq_true_eq] at h
    obtain ⟨h1, h2, rfl⟩ := h
    rw [hg]
    simp only []
    rw [if_pos ⟨h1, h2⟩]
  · cases h
theorem yrow_is {cs : List Value} {esz : Nat} (h : S.yrow cs esz = some (true, S')) : S.row cs esz = some S' := by
  unfold St.yrow at h; unfold St.row
  simp only [Y.req_is, Y.pure_is] at h
  rw [if_pos h.1, h.2]

theorem ywrap_is {t : TypeId} {v u : Value} (h : ywrap P t v = some (true, u)) : u = v := by
  unfold ywrap at h
  split at h
  · simp only [Y.req_is, Y.pure_is] at h; rw [← h.2, intOf_is h.1]
  · simp only [Y.req_is, Y.pure_is] at h; rw [← h.2, boolOf_is h.1]
  · simp only [Y.req_is, Y.pure_is] at h; rw [← h.2, strOf_is h.1]
  · simp only [Y.pure_is] at h; exact h.symm

theorem yload_is {t : TypeId} {a v : Value} (h : yload P S t a = some (true, v)) : xload P S t a = some v := by
  unfold yload at h; unfold xload
  split at h
  · split at h
    · split at h
      · simp only [Y.bind_is, Y.pure_is] at h
        obtain ⟨l, h1, rfl⟩ := h
        simp only [*, yloadN_is h1]
      · cases h
    · simp only [Y.bind_is] at h
      obtain ⟨u, h1, h2⟩ := h
      simp only [*, yload1_is h1, ywrap_is h2]
    · cases h
  · cases h

theorem ystore_is {t : TypeId} {a v : Value} (h : ystore P S t a v = some (true, S')) : xstore P S t a v = some S' := by
  unfold ystore at h; unfold xstore
  split at h
  · split at h
    · split at h
      · rename_i hs
        simp only [hs, if_true, ystoreN_is h]
      · cases h
    · rename_i hv
      split at h
      · rename_i hs
        cases v <;> first | (exact absurd rfl (hv _)) | simp only [hs, if_true, ystore1_is h]
      · cases h
  · cases h

theorem ynewVar_is {t : TypeId} {v : Value} {r : Value × St} (h : ynewVar P S t v = some (true, r)) : xnewVar P S t v = some r := by
  unfold ynewVar at h; unfold xnewVar
  simp only [Y.bind_is, Y.pure_is] at h
  obtain ⟨T, h1, rfl⟩ := h
  simp only [yrow_is h1]

theorem ybuildSlice_is {t : TypeId} {len : Nat} {parts : List (Nat × Value)} {r : Value × St} (h : ybuildSlice P S t len parts = some (true, r)) : xbuildSlice P S t len parts = some r := by
  unfold ybuildSlice at h; unfold xbuildSlice
  split at h
  · split at h
    · split at h
      · cases h
      · rename_i hc
        split at h
        · simp only [Y.bind_is, Y.pure_is] at h
          obtain ⟨T, h1, rfl⟩ := h
          simp only [*, if_false, yrow_is h1]
        · cases h
    · cases h
  · cases h

theorem maxI64 {n : Nat} (h : n ≤ 9223372036854775807) : (n : Int) ≤ IntKind.i64.max := by
  have : IntKind.i64.max = 9223372036854775807 := by decide
  omega
theorem capI64 {b : Nat} {c : Int} (hc : 0 ≤ c) (h : b * c.toNat ≤ 281474976710656) : (b : Int) * c ≤ 2 ^ 48 := by
  have e : c = (c.toNat : Int) := (Int.toNat_of_nonneg hc).symm
  rw [e, ← Int.natCast_mul]
  have : ((b * c.toNat : Nat) : Int) ≤ ((281474976710656 : Nat) : Int) := by exact_mod_cast h
  exact Int.le_trans this (by decide)
theorem ymakeSlice_is {t : TypeId} {l c : Value} {r : Value × St} (h : ymakeSlice P S t l c = some (true, r)) : xmakeSlice P S t l c = some r := by
  unfold ymakeSlice at h; unfold xmakeSlice
  split at h
  · split at h
    · split at h
      · split at h
        · rename_i hc
          simp only [Y.req_is, Y.bind_is, Y.pure_is, decide_eq_true_eq] at h
          obtain ⟨h1, h2, h3, h4, h5, T, h6, rfl⟩ := h
          have h5' := capI64 (Int.le_trans h3 h4) h5
          simp only [*]
          simp [hc.1, yrow_is h6]
        · cases h
      · cases h
    · cases h
  · cases h

theorem yindexAddr_is {t : TypeId} {x ix v : Value} (h : yindexAddr P t x ix = some (true, v)) : xindexAddr P t x ix = some v := by
  unfold yindexAddr at h; unfold xindexAddr
  split at h
  · split at h
    · split at h
      · simp only [Y.req_is, Y.pure_is, decide_eq_true_eq] at h
        obtain ⟨h1, h2, rfl⟩ := h
        simp only [*, and_self, if_true]
      · cases h
    · split at h
      · simp only [Y.req_is, Y.pure_is, decide_eq_true_eq] at h
        obtain ⟨h1, h2, rfl⟩ := h
        simp only [*, and_self, if_true]
      · cases h
    · cases h
  · cases h

theorem yindex_is {t : TypeId} {x ix v : Value} (h : yindex P t x ix = some (true, v)) : xindex P t x ix = some v := by
  unfold yindex at h
  split at h
  · split at h
    · unfold xindex
      simp only [Y.req_is, Y.pure_is, decide_eq_true_eq] at h
      obtain ⟨h1, h2, rfl⟩ := h
      simp only [*, if_true, List.getElem?_eq_getElem h2, List.getD_eq_getElem?_getD, Option.getD_some]
    · simp only [Y.of_is] at h; exact h
  · cases h

theorem yb_none {d top n : Nat} (h : yb d top none = some (true, n)) : n = d := by
  unfold yb at h; simp only [Y.pure_is] at h; exact h.symm
theorem yb_some {d top n : Nat} {v : Value} (h : yb d top (some v) = some (true, n)) : ∃ k i, v = .int k i ∧ 0 ≤ i ∧ i ≤ (top : Int) ∧ n = i.toNat := by
  cases v <;> first
    | (simp only [yb, Y.req_is, Y.pure_is, decide_eq_true_eq] at h; exact ⟨_, _, rfl, h.1, h.2.1, h.2.2.symm⟩)
    | (simp [yb] at h; done)
theorem ybounds_is {len cap : Nat} {lo hi mx : Option Value} {p : Nat × Nat × Nat} (h : ybounds len cap lo hi mx = some (true, p)) : xbounds len cap lo hi mx = some p := by
  unfold ybounds at h; unfold xbounds
  simp only [Y.bind_is] at h
  obtain ⟨m, h1, k, h2, l, h3, h4⟩ := h
  simp only [Y.pure_is] at h4
  subst h4
  split at h2
  · cases h2
  · rename_i hc
    cases mx with
    | none =>
      have := yb_none h1; subst this
      cases hi with
      | none =>
        have := yb_none h2; subst this
        cases lo with
        | none => have := yb_none h3; subst this; rfl
        | some u => obtain ⟨_, _, rfl, q1, q2, rfl⟩ := yb_some h3; simp [q1, q2]
      | some u =>
        obtain ⟨_, _, rfl, p1, p2, rfl⟩ := yb_some h2
        cases lo with
        | none => have := yb_none h3; subst this; simp [p1, p2]
        | some u => obtain ⟨_, _, rfl, q1, q2, rfl⟩ := yb_some h3; simp only [p1, p2, q1, q2, and_self, if_true]
    | some u =>
      obtain ⟨_, _, rfl, r1, r2, rfl⟩ := yb_some h1
      cases hi with
      | none => simp at hc
      | some u =>
        obtain ⟨_, _, rfl, p1, p2, rfl⟩ := yb_some h2
        cases lo with
        | none => have := yb_none h3; subst this; simp only [r1, r2, p1, p2, and_self, if_true]
        | some u => obtain ⟨_, _, rfl, q1, q2, rfl⟩ := yb_some h3; simp only [r1, r2, p1, p2, q1, q2, and_self, if_true]

theorem yslice_is {t : TypeId} {x v : Value} {lo hi mx : Option Value} (h : yslice P S t x lo hi mx = some (true, v)) : xslice P S t x lo hi mx = some v := by
  unfold yslice at h
  split at h
  · rename_i hu
    unfold xslice
    split at h
    · cases h
    · rename_i hm
      simp only [Y.bind_is, Y.pure_is] at h
      obtain ⟨⟨a, b, c⟩, h1, rfl⟩ := h
      simp only [hu, hm, ybounds_is h1]
      simp
  · rename_i hu
    unfold xslice
    split at h
    · rename_i hs hg
      split at h
      · rename_i he
        simp only [Y.bind_is, Y.pure_is] at h
        obtain ⟨⟨a, b, c⟩, h1, rfl⟩ := h
        simp only [hu, hs, hg, ybounds_is h1]
        rw [if_pos he]
      · cases h
    · cases h
  · simp only [Y.of_is] at h; exact h

theorem yint_is {op : BinOp} {k : IntKind} {a b : Int} {v : Value} (h : yint op k a b = some (true, v)) : xint op k a b = some v := by
  unfold yint at h
  split at h
  · simp only [Y.req_is, Y.pure_is, Bool.not_eq_true', decide_eq_false_iff_not] at h
    unfold xint; simp only [h.1, if_false, h.2]
  · simp only [Y.req_is, Y.pure_is, Bool.not_eq_true', decide_eq_false_iff_not] at h
    unfold xint; simp only [h.1, if_false, h.2]
  · simp only [Y.of_is] at h; exact h
theorem yshift_is {op : BinOp} {k : IntKind} {a b : Int} {v : Value} (h : yshift op k a b = some (true, v)) : xshift op k a b = some v := by
  unfold yshift at h; unfold xshift
  split at h
  · simp only [Y.req_is, Y.pure_is, Bool.not_eq_true', decide_eq_false_iff_not] at h
    simp only [h.1, if_false, h.2]
  · simp only [Y.req_is, Y.pure_is, Bool.not_eq_true', decide_eq_false_iff_not] at h
    simp only [h.1, if_false, h.2]
  · cases h
theorem ystr_is {op : BinOp} {a b : ByteArray} {v : Value} (h : ystr op a b = some (true, v)) : xstr op a b = some v := by
  unfold ystr at h
  split at h
  · simp only [Y.req_is, Y.pure_is, decide_eq_true_eq] at h
    unfold xstr; simp only [h.1, if_true, h.2]
  · simp only [Y.of_is] at h; exact h

theorem yeqF_is {eq : TypeId → Value → Value → Option Bool} : ∀ (fs : List Field) (xs ys : List Value) (b : Bool), yeqF P eq fs xs ys = some b → xeqF P eq fs xs ys = some b
  | [], _, _, b, h => by simpa [yeqF, xeqF] using h
  | f :: r, xs, ys, b, h => by
    simp only [yeqF] at h; simp only [xeqF]
    split at h
    · rename_i hf; simp only [hf, if_true]; exact yeqF_is r xs ys b h
    · rename_i hf
      simp only [hf, if_false]
      split at h
      · rename_i u v hu hv
        simp only [hu, hv]
        split at h
        · rename_i c d hc hd
          cases h
          have := yeqF_is r xs ys d hd
          cases c <;> simp only [hc, this, Bool.true_and, Bool.false_and]
        · cases h
      · cases h

theorem yeq_is {d : Nat} {t : TypeId} {x y : Value} {b : Bool} (h : yeq P d t x y = some b) : xeq P (d + 1) t x y = some b := by
  unfold yeq at h
  split at h
  · rename_i hu
    unfold xeq
    simp only [hu]
    split at h
    · cases h
    · rename_i hs
      simp only [hs]
      exact yeqF_is _ _ _ _ h
  · exact h

theorem ybin_is {op : BinOp} {t : TypeId} {c : Bool} {x y v : Value} (h : ybin P op t c x y = some (true, v)) : xbin P op t c x y = some v := by
  unfold ybin at h
  split at h
  · unfold xbin; exact yshift_is h
  · unfold xbin; exact yshift_is h
  · rename_i k a k' b h1 h2
    split at h
    · rename_i hk
      have := yint_is h
      cases op <;> first
        | (unfold xbin; simp only [hk, if_true]; subst hk; exact this)
        | exact (h1 rfl).elim
        | exact (h2 rfl).elim
        | exact (h1 _ _ _ _ rfl rfl rfl).elim
        | exact (h2 _ _ _ _ rfl rfl rfl).elim
    · cases h
  · have := ystr_is h
    cases op <;> (unfold xbin; exact this)
  · split at h
    · rename_i he
      split at h
      · rename_i b hb
        simp only [Y.pure_is] at h
        subst h
        have := yeq_is hb
        unfold xbin
        simp only [he, if_true, this]
      · cases h
    · cases h
  · split at h
    · rename_i he
      split at h
      · rename_i b hb
        simp only [Y.pure_is] at h
        subst h
        have := yeq_is hb
        unfold xbin
        simp only [he, if_true, this]
      · cases h
    · cases h
  · simp only [Y.of_is] at h; exact h

theorem bytesOf_is : ∀ {l : List Value}, l.all (isInt .u8) = true → valBytes l = some (bytesOf l)
  | [], _ => rfl
  | v :: r, h => by
    simp only [List.all_cons, Bool.and_eq_true] at h
    have ih := bytesOf_is h.2
    cases v <;> simp only [isInt, Bool.false_eq_true, false_and, and_false] at h
    rename_i k n
    have hk : IntKind.u8 = k := of_decide_eq_true h.1
    subst hk
    simp only [valBytes, ih]
    rfl

theorem yfirst_is {size n : Nat} {x : Value} {z : Bool} {l : List Value} (h : yfirst S size n x z = some (true, l)) : xfirst S size n x = some l ∧ (z = true ↔ n = 0) := by
  unfold yfirst at h; unfold xfirst
  split at h
  · rename_i hz
    simp only [Y.req_is, Y.pure_is, decide_eq_true_eq] at h
    rw [if_pos h.1, h.2]
    exact ⟨rfl, by simp [hz, h.1]⟩
  · rename_i hz
    simp only [Y.req_is, Bool.not_eq_true', decide_eq_false_iff_not] at h
    rw [if_neg h.1]
    refine ⟨?_, by simp [hz, h.1]⟩
    have h2 := h.2
    split at h2
    · exact yloadN_is h2
    · split at h2
      · rename_i hs
        simp only [Y.pure_is] at h2
        simp only [hs, if_true, h2]
      · cases h2
    · cases h2

theorem yconvert_is {src dst : TypeId} {x : Value} {z : Bool} {r : Value × St} (h : yconvert P S src dst x z = some (true, r)) : xconvert P S src dst x = some r := by
  unfold yconvert at h
  split at h
  · rename_i hs hd
    split at h
    · rename_i he
      unfold xconvert
      simp only [hs, hd, he]
      split at h
      · rename_i hz
        simp only [Y.req_is, Y.pure_is, decide_eq_true_eq] at h
        rw [if_pos h.1, h.2]
      · simp only [Y.req_is, Bool.not_eq_true', decide_eq_false_iff_not] at h
        rw [if_neg h.1]
        have h2 := h.2
        split at h2
        · rename_i hg
          split at h2
          · rename_i hesz
            simp only [Y.bind_is, Y.req_is, Y.pure_is] at h2
            obtain ⟨l, h3, h4, rfl⟩ := h2
            simp only [hg, hesz, if_true, yloadN_is h3, bytesOf_is h4]
          · cases h2
        · cases h2
    · cases h
  · rename_i hs hd
    split at h
    · rename_i he
      simp only [Y.bind_is, Y.pure_is] at h
      obtain ⟨T, h1, rfl⟩ := h
      unfold xconvert
      simp only [hs, hd, he, yrow_is h1]
    · cases h
  · simp only [Y.of_is] at h; exact h

theorem yappend_is {ts : List TypeId} {args : List Value} {z f : Bool} {r : Value × St} (h : yappend P S ts args z f = some (true, r)) : xappend P S ts args = some r := by
  unfold yappend at h; unfold xappend
  split at h
  · split at h
    · cases h
    · rename_i hu1 hu2 hno
      split at h
      · rename_i hs hb hz hl
        split at h
        · cases h
        · rename_i hc
          simp only [hu1, hu2, hno, hs, hb, hz, hl, hc, if_false]
          simp only [Y.bind_is] at h
          obtain ⟨new, h1, h2⟩ := h
          obtain ⟨h3, h4⟩ := yfirst_is h1
          simp only [h3]
          split at h2
          · split at h2
            · rename_i hz1
              simp only [Y.pure_is] at h2
              simp only [h4.1 hz1, if_true, h2]
            · rename_i hz1
              simp only [Y.req_is, Y.bind_is, Y.pure_is, decide_eq_true_eq] at h2
              obtain ⟨h5, h6, T, h7, rfl⟩ := h2
              have : ¬ _ = 0 := fun e => hz1 (h4.2 e)
              have h6' := maxI64 h6
              simp only [this, if_false, h5, h6', and_self, if_true, yrow_is h7]
          · split at h2
            · rename_i hg
              split at h2
              · cases h2
              · rename_i hc2
                simp only [not_or] at hc2
                simp only [Y.req_is, decide_eq_true_eq] at h2
                obtain ⟨h5, h2⟩ := h2
                have hc3 : ¬ (_ ≠ _ ∨ _ = true ∨ _ > _) := fun e => by
                  rcases e with e | e | e
                  · exact hc2.1 e
                  · exact hc2.2 e
                  · exact absurd h5 (Nat.not_le.2 e)
                simp only [hg]
                rw [if_neg hc3]
                split at h2
                · rename_i hz1
                  simp only [Y.pure_is] at h2
                  simp only [h4.1 hz1, if_true, h2]
                · rename_i hz1
                  have hn0 : ¬ _ = 0 := fun e => hz1 (h4.2 e)
                  rw [if_neg hn0]
                  split at h2
                  · simp only [Y.req_is, Y.bind_is, Y.pure_is, decide_eq_true_eq] at h2
                    obtain ⟨h6, T, h7, rfl⟩ := h2
                    simp only [h6, if_true, ystoreN_is h7]
                  · simp only [Y.req_is, Y.bind_is, Y.pure_is, decide_eq_true_eq, Bool.not_eq_true', decide_eq_false_iff_not] at h2
                    obtain ⟨h6, h7, h8, h9, T, h10, rfl⟩ := h2
                    rw [if_neg h6, if_pos ⟨h7, maxI64 h8, h9⟩, yrow_is h10]
            · cases h2
          · cases h2
      · cases h
    · cases h
  · cases h

theorem ycopy_is {ts : List TypeId} {args : List Value} {z f : Bool} {r : Value × St} (h : ycopy P S ts args z f = some (true, r)) : xcopy P S ts args = some r := by
  unfold ycopy at h
  split at h
  · split at h
    · rename_i hu
      split at h
      · rename_i hs hl
        unfold xcopy
        split at h
        · cases h
        · rename_i hc
          simp only [hu, hs, hl, hc, if_false]
          simp only [Y.req_is, Y.bind_is] at h
          obtain ⟨h1, l, h2, h3⟩ := h
          obtain ⟨h4, h5⟩ := yfirst_is h2
          rename_i size n b o len cap
          have hm : min n len = (if f then n else len) := by
            cases f with
            | true => simp only [if_true, decide_eq_true_eq] at h1 ⊢; exact Nat.min_eq_left h1
            | false => simp only [Bool.false_eq_true, if_false, decide_eq_true_eq] at h1 ⊢; exact Nat.min_eq_right h1
          rw [hm, h4]
          simp only []
          split at h3
          · rename_i hz
            simp only [Y.pure_is] at h3
            rw [if_pos (h5.1 hz), h3]
          · rename_i hz
            simp only [Y.bind_is, Y.pure_is] at h3
            obtain ⟨T, h6, rfl⟩ := h3
            rw [if_neg (fun e => hz (h5.2 e)), ystoreN_is h6]
      · simp only [Y.of_is] at h; exact h
    · cases h
  · cases h

theorem ybuiltin_is {b : Builtin} {ts : List TypeId} {args : List Value} {z f : Bool} {r : Value × St} (h : ybuiltin P S b ts args z f = some (true, r)) : xbuiltin P S b ts args = some r := by
  unfold ybuiltin at h
  split at h
  · unfold xbuiltin; exact yappend_is h
  · unfold xbuiltin; exact ycopy_is h
  · simp only [Y.of_is] at h; exact h

theorem yval_is {x : Y Value} {y : Option Value} {r : Res × St} (h : yval S x = some (true, r)) (hx : ∀ v, x = some (true, v) → y = some v) : val S y = some r := by
  unfold yval at h
  simp only [Y.bind_is, Y.pure_is] at h
  obtain ⟨v, h1, rfl⟩ := h
  rw [hx v h1]; rfl
theorem yvals_is {x : Y (Value × St)} {y : Option (Value × St)} {r : Res × St} (h : yvals x = some (true, r)) (hx : ∀ v, x = some (true, v) → y = some v) : vals y = some r := by
  unfold yvals at h
  simp only [Y.bind_is, Y.pure_is] at h
  obtain ⟨v, h1, rfl⟩ := h
  rw [hx v h1]; rfl
theorem yskips_is {x : Y St} {y : Option St} {r : Res × St} (h : yskips x = some (true, r)) (hx : ∀ v, x = some (true, v) → y = some v) : skips y = some r := by
  unfold yskips at h
  simp only [Y.bind_is, Y.pure_is] at h
  obtain ⟨v, h1, rfl⟩ := h
  rw [hx v h1]; rfl

theorem yop_is {okF : FuncId → Bool} {ρ : Operand → Option Value} {o : Oper} {z f : Bool} {r : Res × St} (h : yop P okF S ρ o z f = some (true, r)) : xop P okF S ρ o = some r := by
  unfold yop at h
  split at h
  · rename_i ho
    unfold xop; simp only [ho]
    split at h
    · rename_i q hc
      simp only [Y.req_is] at h
      obtain ⟨h1, h2⟩ := h
      cases z with
      | true =>
        simp only [if_true] at h1 h2
        subst h1
        simp only [hc]
        exact yval_is h2 (fun v hv => by simpa only [Y.of_is] using hv)
      | false =>
        simp only [Bool.false_eq_true, if_false, Bool.not_eq_true'] at h1 h2
        subst h1
        simp only [hc]
        exact yval_is h2 (fun v hv => by simpa only [Y.of_is] using hv)
    · cases h
  · rename_i ho
    unfold xop; simp only [ho, b1]
    split at h
    · rename_i hv; simp only [hv]; exact yvals_is h (fun _ => ynewVar_is)
    · cases h
  · rename_i ho
    unfold xop; simp only [ho, b1]
    split at h
    · rename_i hv; simp only [hv]; exact yvals_is h (fun _ => ynewVar_is)
    · cases h
  · rename_i ho
    unfold xop; simp only [ho, b1]
    split at h
    · rename_i hv; simp only [hv]; exact yvals_is h (fun _ => ybuildSlice_is)
    · cases h
  · rename_i ho
    unfold xop; simp only [ho, b1]
    split at h
    · rename_i hv; simp only [hv]; exact yval_is h (fun _ => yload_is)
    · cases h
  · rename_i ho
    unfold xop; simp only [ho, b1]
    split at h
    · rename_i hv hu; simp only [hv, hu]; exact yskips_is h (fun _ => ystore_is)
    · cases h
  · rename_i ho
    unfold xop; simp only [ho, b1]
    split at h
    · rename_i hv hu; simp only [hv, hu]; exact yval_is h (fun _ => ybin_is)
    · cases h
  · rename_i ho
    unfold xop; simp only [ho, b1]
    split at h
    · rename_i hv; simp only [hv]; exact yvals_is h (fun _ => yconvert_is)
    · cases h
  · rename_i ho
    unfold xop; simp only [ho, b1]
    split at h
    · rename_i hv hu; simp only [hv, hu]; exact yvals_is h (fun _ => ymakeSlice_is)
    · cases h
  · rename_i ho
    unfold xop; simp only [ho, b1]
    split at h
    · rename_i hv hl hh hm; simp only [hv, hl, hh, hm]; exact yval_is h (fun _ => yslice_is)
    · cases h
  · rename_i ho
    unfold xop; simp only [ho, b1]
    split at h
    · rename_i hv hu; simp only [hv, hu]; exact yval_is h (fun _ => yindexAddr_is)
    · cases h
  · rename_i ho
    unfold xop; simp only [ho, b1]
    split at h
    · rename_i hv hu; simp only [hv, hu]; exact yval_is h (fun _ => yindex_is)
    · cases h
  · rename_i ho
    split at h
    · cases h
    · rename_i args ha
      split at h
      · rename_i b hc
        unfold xop
        simp only [ho, ha, hc]
        exact yvals_is h (fun _ => ybuiltin_is)
      · simp only [Y.of_is] at h; exact h
  · simp only [Y.of_is] at h; exact h
end
end Go.Xe
/-
  The engine with unknown contents, part c: regions, code and calls along a path.
-/
set_option linter.unusedSimpArgs false
set_option linter.unusedVariables false
namespace Go.Xe
open Go

abbrev Path := List Bool
abbrev YCall := FuncId → List Value → St → Path → Y ((Value × St) × Path)

def ywanted (ops : Array Oper) (a : XAct) (o : Oper) (p : Path) : Y (Bool × Path) :=
  match o.guard with
  | none => .pure (true, p)
  | some (j, want) => match ops[j]? with
    | some oj => match oj.dst with
      | some d => match slot a d with
        | some (.bool b) => match p with
          | w :: p' => .req (if want then (if w then b else !b) else (if w then !b else b)) (.pure (w, p'))
          | [] => none
        | _ => none
      | none => none
    | none => none

section
variable (P : Program)

def needsZF : Op → Bool
  | .pick .. => true
  | .call c => match c.callee with
    | .builtin .append | .builtin .copy => true
    | _ => false
  | .convert s d _ => match P.underlying s, P.underlying d with
    | some (.slice _), some .string => true
    | _, _ => false
  | _ => false
def yzf (op : Op) (p : Path) : Option ((Bool × Bool) × Path) :=
  if needsZF P op then match p with
    | z :: f :: p' => some ((z, f), p')
    | _ => none
  else some ((false, false), p)

variable (okF : FuncId → Bool) (call : YCall)

def yrun (S : St) (ρ : Operand → Option Value) (o : Oper) (p : Path) : Y ((Value × St) × Path) :=
  match yzf P o.op p with
  | none => none
  | some (zf, p1) => (yop P okF S ρ o zf.1 zf.2).bind fun r => match r.1 with
    | .val v => .pure ((v, r.2), p1)
    | .skip => .pure ((undefX, r.2), p1)
    | .enter g args => call g args r.2 p1

def yops (ops : Array Oper) : List Oper → XAct → St → Path → Y ((XAct × St) × Path)
  | [], a, S, p => .pure ((a, S), p)
  | o :: r, a, S, p => (ywanted ops a o p).bind fun w => match w.1 with
    | false => yops ops r (putX a o.dst undefX) S w.2
    | true => (yrun P okF call S (evalX S a) o w.2).bind fun x => yops ops r (putX a o.dst x.1.1) x.1.2 x.2

/-- what is made by an operation that makes a block -/
def yal (ρ : Operand → Option Value) (op : Op) : Y (Ent × (Nat → Value)) :=
  match op with
  | .makeSlice t l c => match ρ l, ρ c with
    | some (.int _ len), some (.int _ cap) =>
      match P.underlying t with
      | some (.slice elem) => match sizeT P elem, bytesT P elem, zeroT P elem with
        | some size, some bytes, some z =>
          if size = 0 ∨ z.cells.size ≠ size ∨ z.cells.toList.all plain1 = false then none else
          .req (decide (IntKind.i64.wrap len = len)) (.req (decide (IntKind.i64.wrap cap = cap)) (.req (decide (0 ≤ len)) (.req (decide (len ≤ cap)) (.req (decide (bytes * cap.toNat ≤ 281474976710656))
            (.pure (.row (zerosL z.cells.toList cap.toNat) size false, fun i => .slice (some ⟨i, 0, none⟩) len.toNat cap.toNat))))))
        | _, _, _ => none
      | _ => none
    | _, _ => none
  | op => .of (xal P ρ op)

variable (ops : Array Oper) (ms : List Nat) (base : Nat)

/-- one step of a region whose order is drawn; with each quiet operation what the path said of it -/
def ystepD (i : Nat) (o : Oper) (d : Dr) (zs : List (Bool × Bool)) (p : Path) : Y ((Dr × List (Bool × Bool)) × Path) :=
  (ywanted ops d.a o p).bind fun w => match w.1 with
  | false => .pure (({ d with a := putX d.a o.dst undefX }, zs), w.2)
  | true =>
    if isA o.op then (yal P (evalR d.V d.a (o.looksAt ops)) o.op).bind fun es => .pure (({ d with a := putX d.a o.dst (es.2 (base + i)), as := d.as ++ [(i, es.1)] }, zs), w.2)
    else if isQ P o.op then match yzf P o.op w.2 with
      | none => none
      | some (zf, p1) => (yop P okF (addAs d.V base (fun x => (ms.getD i 0).testBit x && !d.ab.testBit x) d.as) (evalR d.V d.a (o.looksAt ops)) o zf.1 zf.2).bind fun r => match r.1 with
        | .val v => .pure (({ d with a := putX d.a o.dst v, qs := d.qs ++ [⟨i, o, d.a, v⟩] }, zs ++ [zf]), p1)
        | _ => none
    else if d.ws.all (fun w => (ms.getD i 0).testBit w) then
      (yrun P okF call (addAs d.V base (fun x => (ms.getD i 0).testBit x && !d.ab.testBit x) d.as) (evalR d.V d.a (o.looksAt ops)) o w.2).bind fun x =>
        .pure (({ a := putX d.a o.dst x.1.1, V := x.1.2, hist := d.hist ++ [(x.1.2, d.ab ||| ms.getD i 0)], ws := d.ws ++ [i], as := d.as, ab := d.ab ||| ms.getD i 0, qs := d.qs }, zs), x.2)
    else none

def yrunD : List Oper → Nat → Dr → List (Bool × Bool) → Path → Y ((Dr × List (Bool × Bool)) × Path)
  | [], _, d, zs, p => .pure ((d, zs), p)
  | o :: r, i, d, zs, p => (ystepD P okF call ops ms base i o d zs p).bind fun x => yrunD r (i + 1) x.1.1 x.1.2 x.2

def ycheckQ (d : Dr) (q : Qr) (zf : Bool × Bool) : List (St × Nat) → Nat → Y Unit
  | [], _ => .pure ()
  | (V, ab) :: r, j =>
    if mayAt ms d.ws q.i j then
      (yop P okF (addAs V base (fun x => (ms.getD q.i 0).testBit x && !ab.testBit x) d.as) (evalR V q.a (q.o.looksAt ops)) q.o zf.1 zf.2).bind fun x => match x.1 with
      | .val u => .req (same u q.v) (ycheckQ d q zf r (j + 1))
      | _ => none
    else ycheckQ d q zf r (j + 1)
def ycheckQs (d : Dr) : List Qr → List (Bool × Bool) → Y Unit
  | [], _ => .pure ()
  | q :: r, z :: zs => (ycheckQ P okF ops ms base d q z d.hist 0).bind fun _ => ycheckQs d r zs
  | _ :: _, [] => none

def ydraw (a : XAct) (S : St) (p : Path) : Y ((XAct × St) × Path) :=
  let V0 : St := { S with next := S.next + ops.toList.length }
  (yrunD P okF call ops (masks ops.toList) S.next ops.toList 0 { a := a, V := V0, hist := [(V0, 0)], ws := [], as := [], ab := 0, qs := [] } [] p).bind fun x =>
    if x.1.1.ws.isEmpty then .pure ((x.1.1.a, addAs x.1.1.V S.next (fun y => !x.1.1.ab.testBit y) x.1.1.as), x.2)
    else (ycheckQs P okF ops (masks ops.toList) S.next x.1.1 x.1.1.qs x.1.2).bind fun _ => .pure ((x.1.1.a, addAs x.1.1.V S.next (fun y => !x.1.1.ab.testBit y) x.1.1.as), x.2)
end

abbrev YOut := Y ((XE × XAct × St) × Path)

section
variable (P : Program) (okF : FuncId → Bool) (call : YCall) (fg : Nat → Option Nat)

def ycode : Nat → Code → XAct → St → Path → YOut
  | 0, _, _, _, _ => none
  | n + 1, c, a, S, p => match c with
    | .skip => .pure ((.normal, a, S), p)
    | .region id ops false => (yops P okF call ops ops.toList a S p).bind fun x => .pure ((.normal, drop (fg id) x.1.1, x.1.2), x.2)
    | .region id ops true => (ydraw P okF call ops a S p).bind fun x => .pure ((.normal, drop (fg id) x.1.1, x.1.2), x.2)
    | .seq x y => (ycode n x a S p).bind fun r => match r.1.1 with
      | .normal => ycode n y r.1.2.1 r.1.2.2 r.2
      | _ => .pure r
    | .cond c x y => match evalX S a c, p with
      | some (.bool b), w :: p' => .req (if w then b else !b) (if w then ycode n x a S p' else ycode n y a S p')
      | _, _ => none
    | .block id c => (ycode n c a S p).bind fun r => match r.1.1 with
      | .exit i => if i = id then .pure ((.normal, r.1.2), r.2) else .pure r
      | _ => .pure r
    | .loop c => (ycode n c a S p).bind fun r => match r.1.1 with
      | .normal => ycode n (.loop c) r.1.2.1 r.1.2.2 r.2
      | _ => .pure r
    | .exit id => .pure ((.exit id, a, S), p)
    | .ret => .pure ((.ret, a, S), p)
    | .label _ => .pure ((.normal, a, S), p)
    | _ => none

/-- A function's body on arguments. -/
def ybody (n : Nat) (fn : Func) (c : Code) (args : List Value) (S : St) (p : Path) : Y ((Value × St) × Path) :=
  (ycode P okF call fg n c (startX fn args) S p).bind fun r => match r.1.1 with
  | .exit _ => none
  | _ => match xres P fn r.1.2.1 r.1.2.2 with
    | some v => .pure ((v, r.1.2.2), r.2)
    | none => none
end

/-- What is known of a function: what a call gives. -/
abbrev Orc := FuncId → Option (List Value → St → Y (Value × St))
/-- Which slots are kept, of each function behind each region. -/
abbrev Keep := FuncId → Nat → Option Nat

/-- Calls, to a depth: a function that is known gives what is known of it. -/
def ygo (P : Program) (okF : FuncId → Bool) (orc : Orc) (kp : Keep) : Nat → YCall
  | 0, _, _, _, _ => none
  | n + 1, f, args, S, p => match orc f with
    | some F => (F args S).bind fun r => .pure (r, p)
    | none => if okF f then match P.funcs[f]? with
      | some fn => match fn.body with
        | some c => ybody P okF (ygo P okF orc kp n) (kp f) n fn c args S p
        | none => none
      | none => none
      else none
def yes {β : Type} (x : Y β) : Option β :=
  match x with
  | some (true, b) => some b
  | _ => none
def xgoO (P : Program) (okF : FuncId → Bool) (orc : Orc) (kp : Keep) : Nat → XCall
  | 0, _, _, _ => none
  | n + 1, f, args, S => match orc f with
    | some F => yes (F args S)
    | none => if okF f then match P.funcs[f]? with
      | some fn => match fn.body with
        | some c => xbody P okF (xgoO P okF orc kp n) (kp f) n fn c args S
        | none => none
      | none => none
      else none

section
variable {P : Program} {okF : FuncId → Bool}

theorem ywanted_is {ops : Array Oper} {a : XAct} {o : Oper} {p p' : Path} {w : Bool} (h : ywanted ops a o p = some (true, (w, p'))) : wantedX ops a o = some w := by
  unfold ywanted at h
  unfold wantedX
  split at h
  · rename_i hg
    simp only [Y.pure_is, Prod.mk.injEq] at h
    rw [hg]; simp only [h.1]
  · rename_i j want hg
    split at h
    · rename_i oj hj
      split at h
      · rename_i d hd
        split at h
        · rename_i b hs
          split at h
          · rename_i w0 p0
            simp only [Y.req_is, Y.pure_is, Prod.mk.injEq] at h
            obtain ⟨h1, rfl, rfl⟩ := h
            simp only [hg, hj, hd, hs]
            cases want <;> cases w0 <;> cases b <;> simp at h1 ⊢
          · cases h
        · cases h
      · cases h
    · cases h

theorem yes_is {β : Type} {x : Y β} {b : β} : yes x = some b ↔ x = some (true, b) := by
  unfold yes
  split
  · simp
  · rename_i hno
    constructor
    · intro h; cases h
    · intro h; exact absurd h (hno _)

def YX (yc : YCall) (xc : XCall) : Prop := ∀ f args S p r p', yc f args S p = some (true, (r, p')) → xc f args S = some r

variable {yc : YCall} {xc : XCall} {fg : Nat → Option Nat}

theorem yrun_is (hc : YX yc xc) {S : St} {ρ : Operand → Option Value} {o : Oper} {p p' : Path} {r : Value × St} (h : yrun P okF yc S ρ o p = some (true, (r, p'))) : xrun P okF xc S ρ o = some r := by
  unfold yrun at h
  split at h
  · cases h
  · simp only [Y.bind_is] at h
    obtain ⟨⟨res, T⟩, h1, h2⟩ := h
    have := yop_is h1
    unfold xrun
    rw [this]
    cases res with
    | val v => simp only [Y.pure_is, Prod.mk.injEq] at h2 ⊢; rw [← h2.1]
    | skip => simp only [Y.pure_is, Prod.mk.injEq] at h2 ⊢; rw [← h2.1]
    | enter g args => exact hc _ _ _ _ _ _ h2

theorem yops_is (hc : YX yc xc) (ops : Array Oper) : ∀ (l : List Oper) (a : XAct) (S : St) (p p' : Path) (r : XAct × St), yops P okF yc ops l a S p = some (true, (r, p')) → xops P okF xc ops l a S = some r
  | [], a, S, p, p', r, h => by
    simp only [yops, Y.pure_is, Prod.mk.injEq] at h
    simp only [xops, h.1]
  | o :: l, a, S, p, p', r, h => by
    simp only [yops, Y.bind_is] at h
    obtain ⟨⟨w, p1⟩, h1, h2⟩ := h
    simp only [xops, ywanted_is h1]
    cases w with
    | false => exact yops_is hc ops l _ _ _ _ _ h2
    | true =>
      simp only [Y.bind_is] at h2
      obtain ⟨⟨⟨v, T⟩, p2⟩, h3, h4⟩ := h2
      simp only [yrun_is hc h3]
      exact yops_is hc ops l _ _ _ _ _ h4

theorem yal_is {ρ : Operand → Option Value} {op : Op} {r : Ent × (Nat → Value)} (h : yal P ρ op = some (true, r)) : xal P ρ op = some r := by
  unfold yal at h
  split at h
  · unfold xal
    split at h
    · split at h
      · split at h
        · split at h
          · cases h
          · rename_i hn
            simp only [not_or] at hn
            simp only [Y.req_is, Y.pure_is, decide_eq_true_eq] at h
            obtain ⟨h1, h2, h3, h4, h5, rfl⟩ := h
            have h6 := capI64 (Int.le_trans h3 h4) h5
            have h7 : ∀ {b : Bool}, ¬ b = false → b = true := by intro b; cases b <;> simp
            have h8 := Classical.not_not.1 hn.2.1
            have h9 := h7 hn.2.2
            simp only [*]
            rw [if_pos ⟨trivial, trivial, trivial, trivial, trivial, hn.1, trivial, trivial⟩]
        · cases h
      · cases h
    · cases h
  · rw [Y.of_is] at h; exact h

theorem ystepD_is (hc : YX yc xc) {ops : Array Oper} {ms : List Nat} {base i : Nat} {o : Oper} {d d' : Dr} {zs zs' : List (Bool × Bool)} {p p' : Path} (h : ystepD P okF yc ops ms base i o d zs p = some (true, ((d', zs'), p'))) :
    stepD P okF xc ops ms base i o d = some d' := by
  unfold ystepD at h
  simp only [Y.bind_is] at h
  obtain ⟨⟨w, p1⟩, h1, h2⟩ := h
  unfold stepD
  rw [ywanted_is h1]
  cases w with
  | false => simp only [Y.pure_is, Prod.mk.injEq] at h2 ⊢; rw [← h2.1.1]
  | true =>
    simp only at h2 ⊢
    split at h2
    · rename_i hA
      rw [if_pos hA]
      simp only [Y.bind_is, Y.pure_is, Prod.mk.injEq] at h2
      obtain ⟨es, hx, h3⟩ := h2
      simp only [yal_is hx, h3.1.1]
    · rename_i hA
      rw [if_neg hA]
      split at h2
      · rename_i hQ
        rw [if_pos hQ]
        split at h2
        · cases h2
        · simp only [Y.bind_is] at h2
          obtain ⟨⟨res, T⟩, h3, h4⟩ := h2
          simp only [yop_is h3]
          cases res with
          | val v => simp only [Y.pure_is, Prod.mk.injEq] at h4 ⊢; rw [← h4.1.1]
          | skip => cases h4
          | enter g args => cases h4
      · rename_i hQ
        rw [if_neg hQ]
        split at h2
        · rename_i hall
          rw [if_pos hall]
          simp only [Y.bind_is] at h2
          obtain ⟨⟨⟨v, T⟩, p2⟩, h3, h4⟩ := h2
          simp only [Y.pure_is, Prod.mk.injEq] at h4
          simp only [yrun_is hc h3, h4.1.1]
        · cases h2

theorem yrunD_is (hc : YX yc xc) {ops : Array Oper} {ms : List Nat} {base : Nat} : ∀ (l : List Oper) (i : Nat) (d d' : Dr) (zs zs' : List (Bool × Bool)) (p p' : Path), yrunD P okF yc ops ms base l i d zs p = some (true, ((d', zs'), p')) →
    runD P okF xc ops ms base l i d = some d'
  | [], i, d, d', zs, zs', p, p', h => by
    simp only [yrunD, Y.pure_is, Prod.mk.injEq] at h
    simp only [runD, h.1.1]
  | o :: l, i, d, d', zs, zs', p, p', h => by
    simp only [yrunD, Y.bind_is] at h
    obtain ⟨⟨⟨d1, zs1⟩, p1⟩, h1, h2⟩ := h
    simp only [runD, ystepD_is hc h1]
    exact yrunD_is hc l _ _ _ _ _ _ _ h2

theorem ycheckQ_is {ops : Array Oper} {ms : List Nat} {base : Nat} {d : Dr} {q : Qr} {zf : Bool × Bool} : ∀ (h : List (St × Nat)) (j : Nat) (u : Unit), ycheckQ P okF ops ms base d q zf h j = some (true, u) → checkQ P okF ops ms base d q h j = true
  | [], j, u, _ => rfl
  | (V, ab) :: r, j, u, h => by
    simp only [ycheckQ] at h
    simp only [checkQ, Bool.and_eq_true]
    split at h
    · rename_i hm
      rw [if_pos hm]
      simp only [Y.bind_is] at h
      obtain ⟨⟨res, T⟩, h1, h2⟩ := h
      rw [yop_is h1]
      cases res with
      | val v =>
        simp only [Y.req_is] at h2
        exact ⟨h2.1, ycheckQ_is r (j + 1) u h2.2⟩
      | skip => cases h2
      | enter g args => cases h2
    · rename_i hm
      rw [if_neg hm]
      exact ⟨rfl, ycheckQ_is r (j + 1) u h⟩
theorem ycheckQs_is {ops : Array Oper} {ms : List Nat} {base : Nat} {d : Dr} : ∀ (qs : List Qr) (zs : List (Bool × Bool)) (u : Unit), ycheckQs P okF ops ms base d qs zs = some (true, u) → qs.all (fun q => checkQ P okF ops ms base d q d.hist 0) = true
  | [], _, _, _ => rfl
  | q :: r, z :: zs, u, h => by
    simp only [ycheckQs, Y.bind_is] at h
    obtain ⟨u1, h1, h2⟩ := h
    simp only [List.all_cons, Bool.and_eq_true]
    exact ⟨ycheckQ_is _ _ _ h1, ycheckQs_is r zs u h2⟩
  | _ :: _, [], _, h => by simp [ycheckQs] at h

theorem ydraw_is (hc : YX yc xc) {ops : Array Oper} {a : XAct} {S : St} {p p' : Path} {r : XAct × St} (h : ydraw P okF yc ops a S p = some (true, (r, p'))) : xdraw P okF xc ops a S = some r := by
  unfold ydraw at h
  simp only [Y.bind_is] at h
  obtain ⟨⟨⟨d, zs⟩, p1⟩, h1, h2⟩ := h
  unfold xdraw
  simp only [yrunD_is hc _ _ _ _ _ _ _ _ h1]
  split at h2
  · rename_i hw
    simp only [Y.pure_is, Prod.mk.injEq] at h2
    simp only [hw, Bool.true_or, if_true, h2.1]
  · simp only [Y.bind_is] at h2
    obtain ⟨u, h3, h4⟩ := h2
    simp only [Y.pure_is, Prod.mk.injEq] at h4
    simp only [ycheckQs_is _ _ _ h3, Bool.or_true, if_true, h4.1]

theorem ycode_is (hc : YX yc xc) : ∀ (n : Nat) (c : Code) (a : XAct) (S : St) (p p' : Path) (r : XE × XAct × St), ycode P okF yc fg n c a S p = some (true, (r, p')) → xcode P okF xc fg n c a S = some r := by
  intro n
  induction n with
  | zero => intro c a S p p' r h; simp [ycode] at h
  | succ n ih =>
    intro c a S p p' r h
    cases c with
    | skip => simp only [ycode, Y.pure_is, Prod.mk.injEq] at h; simp only [xcode, h.1]
    | region id ops d =>
      cases d with
      | false =>
        simp only [ycode, Y.bind_is, Y.pure_is, Prod.mk.injEq] at h
        obtain ⟨⟨x, p1⟩, h1, h2, _⟩ := h
        simp only [xcode, yops_is hc _ _ _ _ _ _ _ h1, xnorm, ← h2]
      | true =>
        simp only [ycode, Y.bind_is, Y.pure_is, Prod.mk.injEq] at h
        obtain ⟨⟨x, p1⟩, h1, h2, _⟩ := h
        simp only [xcode, ydraw_is hc h1, xnorm, ← h2]
    | seq x y =>
      simp only [ycode, Y.bind_is] at h
      obtain ⟨⟨⟨e, a1, S1⟩, p1⟩, h1, h2⟩ := h
      simp only [xcode, ih _ _ _ _ _ _ h1, XOut.then]
      cases e with
      | normal => exact ih _ _ _ _ _ _ h2
      | exit i => simp only [Y.pure_is, Prod.mk.injEq] at h2; simp only [← h2.1]
      | ret => simp only [Y.pure_is, Prod.mk.injEq] at h2; simp only [← h2.1]
    | cond c x y =>
      simp only [ycode] at h
      simp only [xcode]
      split at h
      · rename_i b w p1 hb
        simp only [Y.req_is] at h
        obtain ⟨h1, h2⟩ := h
        cases w with
        | true =>
          simp only [if_true] at h1 h2
          subst h1
          simp only [hb]
          exact ih _ _ _ _ _ _ h2
        | false =>
          simp only [Bool.false_eq_true, if_false, Bool.not_eq_true'] at h1 h2
          subst h1
          simp only [hb]
          exact ih _ _ _ _ _ _ h2
      · cases h
    | block id c =>
      simp only [ycode, Y.bind_is] at h
      obtain ⟨⟨⟨e, a1, S1⟩, p1⟩, h1, h2⟩ := h
      simp only [xcode, ih _ _ _ _ _ _ h1, XOut.block]
      cases e with
      | normal => simp only [Y.pure_is, Prod.mk.injEq] at h2; simp only [h2.1]
      | exit i =>
        simp only at h2
        split at h2
        · rename_i hi; simp only [Y.pure_is, Prod.mk.injEq] at h2; simp only [hi, if_true, h2.1]
        · rename_i hi; simp only [Y.pure_is, Prod.mk.injEq] at h2; simp only [hi, if_false, h2.1]
      | ret => simp only [Y.pure_is, Prod.mk.injEq] at h2; simp only [h2.1]
    | loop c =>
      simp only [ycode, Y.bind_is] at h
      obtain ⟨⟨⟨e, a1, S1⟩, p1⟩, h1, h2⟩ := h
      simp only [xcode, ih _ _ _ _ _ _ h1, XOut.then]
      cases e with
      | normal => exact ih _ _ _ _ _ _ h2
      | exit i => simp only [Y.pure_is, Prod.mk.injEq] at h2; simp only [← h2.1]
      | ret => simp only [Y.pure_is, Prod.mk.injEq] at h2; simp only [← h2.1]
    | exit id => simp only [ycode, Y.pure_is, Prod.mk.injEq] at h; simp only [xcode, h.1]
    | ret => simp only [ycode, Y.pure_is, Prod.mk.injEq] at h; simp only [xcode, h.1]
    | label l => simp only [ycode, Y.pure_is, Prod.mk.injEq] at h; simp only [xcode, h.1]
    | rangeFunc _ _ _ _ => simp [ycode] at h
    | scope _ => simp [ycode] at h
    | goto _ => simp [ycode] at h
    | refuse _ => simp [ycode] at h

theorem ybody_is (hc : YX yc xc) {n : Nat} {fn : Func} {c : Code} {args : List Value} {S : St} {p p' : Path} {r : Value × St} (h : ybody P okF yc fg n fn c args S p = some (true, (r, p'))) : xbody P okF xc fg n fn c args S = some r := by
  unfold ybody at h
  simp only [Y.bind_is] at h
  obtain ⟨⟨⟨e, a1, S1⟩, p1⟩, h1, h2⟩ := h
  unfold xbody
  rw [ycode_is hc _ _ _ _ _ _ _ h1]
  cases e with
  | exit i => cases h2
  | normal =>
    simp only at h2 ⊢
    split at h2
    · rename_i v hv; simp only [Y.pure_is, Prod.mk.injEq] at h2; simp only [hv, h2.1]
    · cases h2
  | ret =>
    simp only at h2 ⊢
    split at h2
    · rename_i v hv; simp only [Y.pure_is, Prod.mk.injEq] at h2; simp only [hv, h2.1]
    · cases h2

theorem ygo_is (orc : Orc) (kp : Keep) : ∀ n, YX (ygo P okF orc kp n) (xgoO P okF orc kp n)
  | 0 => fun f args S p r p' h => by simp [ygo] at h
  | n + 1 => fun f args S p r p' h => by
    cases hO : orc f with
    | some F =>
      simp only [ygo, hO, Y.bind_is, Y.pure_is, Prod.mk.injEq] at h
      obtain ⟨x, h1, h2, _⟩ := h
      simp only [xgoO, hO]
      rw [yes_is, h1, h2]
    | none =>
      simp only [ygo, hO] at h
      simp only [xgoO, hO]
      split at h
      · rename_i hok
        rw [if_pos hok]
        split at h
        · rename_i fn hf
          split at h
          · rename_i c hb
            exact ybody_is (ygo_is orc kp n) h
          · cases h
        · cases h
      · cases h

/-- What is known of functions is so. -/
def OrcSound (P : Program) (orc : Orc) : Prop :=
  ∀ f F, orc f = some F → ∀ args S v S', F args S = some (true, (v, S')) → ∀ α w (args' : Array Value), Rel α S w → LRel α args args'.toList →
    Calls P f args' w fun e w' => ∃ β v', e = .returned v' ∧ Next α S w β S' w' ∧ VRel β v v'

/-- The bodies that may be run are such that a region's order is well drawn. -/
def GoodF (P : Program) (okF : FuncId → Bool) : Prop := ∀ (f : Nat) fn c, okF f = true → P.funcs[f]? = some fn → fn.body = some c → goodCode c = true

theorem xgoO_sound (hm : P.follows .mixedOrders = true) (hF : OkF P okF) (hg : GoodF P okF) {orc : Orc} (ho : OrcSound P orc) (kp : Keep) : ∀ n, CallSound P (xgoO P okF orc kp n)
  | 0 => fun f args S v S' h => by simp [xgoO] at h
  | n + 1 => fun f args S v S' hx α w args' h hargs => by
    simp only [xgoO] at hx
    split at hx
    · rename_i F hf
      rw [yes_is] at hx
      exact ho f F hf args S v S' hx α w args' h hargs
    · split at hx
      · rename_i hok
        split at hx
        · rename_i fn hf
          split at hx
          · rename_i c hb
            exact xbody_sound hm hF (xgoO_sound hm hF hg ho kp n) hf hb (hg f fn c hok hf hb) hx h hargs
          · cases hx
        · cases hx
      · cases hx
end
end Go.Xe
