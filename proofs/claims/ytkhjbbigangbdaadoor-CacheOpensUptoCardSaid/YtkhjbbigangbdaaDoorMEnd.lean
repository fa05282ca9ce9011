/-
  CacheOpens, in the second form, with its card: for every input of bulk at most 1048576 the call returns true, and the input reads as it did.
-/
import Derived.Test.YtkhjbbigangbdaaDoorM25
import Derived.Test.YtkhjbbigangbdaaDoorCards
import Derived.Test.YtkhjbbigangbdaaDoorTie
import Derived.WalkKit
import Derived.ProofKit
import Derived.OpenShut
import Derived.Deep.DeepHandedRow
import Derived.Deep.DeepWitnessRowRef
import Derived.WideKeyArgs
import Derived.Lay
import Derived.SevenTiedAt
set_option linter.unusedVariables false
set_option linter.unusedSimpArgs false
namespace Go.Xe
open Go Go.Proofs Go.ChangeShapes Go.WideShapes Go.ChangeAt Go.RowKit

theorem byteRow_any {α : Place} {W : World} {R o n : Nat} {cs : List Value} (hb : cs.all isByte = true) (h0 : 0 < n) (hn : cs.length = n) (h : ∀ i, i < n → W.cell? ⟨R, o + i, none⟩ = cs[i]?) :
    EntRel α W ⟨R, o, n, 1⟩ (.row cs 1 true) := by
  refine ent_of_cells cs (by omega) h0 ⟨_, (h (n - 1) (by omega)).trans (List.getElem?_eq_getElem (by omega))⟩ fun i v hi => ?_
  have hlt := (List.getElem?_eq_some_iff.1 hi).1
  refine ⟨v, (h i (by omega)).trans hi, plain1_rel α v ?_⟩
  have hm := List.all_eq_true.1 hb v (List.mem_of_getElem? hi)
  unfold isByte at hm
  split at hm
  · rfl
  · cases hm

/-- A slice that came in, as the engine has it. -/
theorem arg_slice {W : World} {v : Value} {l1 : Loc} (b : Nat) (hl1 : l1.blk < W.heap.size) (hl1e : l1.esz = 1) (hw1 : ∀ α, EntRel α W l1 (.row [] 1 true))
    (hv : (v = .slice none 0 0) ∨ (∃ a, v = .slice (some a) 0 0) ∨
    (∃ R o len cap, ∃ cs : List Value, v = .slice (some ⟨R, o, none⟩) len cap ∧ 0 < cap ∧ len ≤ cap ∧ cs.length = cap ∧ cs.all isByte = true ∧ (∀ i, i < cap → W.cell? ⟨R, o + i, none⟩ = cs[i]?) ∧ len < 2 ^ 40)) :
    ∃ (bv : Value) (eb : Option Ent) (cs : List Value) (l : Nat) (loc : Loc), valE b bv eb cs l ∧ cs.all isByte = true ∧ l < 2 ^ 40 ∧ (∀ e, eb = some e → e.ro = true ∧ ∀ α, EntRel α W loc e) ∧ loc.blk < W.heap.size ∧ ∀ α : Place, α b = some loc → VRel α bv v := by
  rcases hv with rfl | ⟨a, rfl⟩ | ⟨R, o, len, cap, cs, rfl, h0, hlc, hcs, hb, hcell, hlen⟩
  · exact ⟨.slice none 0 0, none, [], 0, l1, .inl ⟨rfl, rfl, rfl, rfl⟩, rfl, by omega, (fun e h => by cases h), hl1, fun α h => .sliceNil⟩
  · exact ⟨.slice (some ⟨b, 0, none⟩) 0 0, some (.row [] 1 true), [], 0, l1, .inr ⟨0, true, rfl, rfl, Nat.le_refl _, Nat.le_refl _⟩, rfl, by omega, (fun e h => by cases h; exact ⟨rfl, hw1⟩), hl1, fun α h => .sliceEnd _ _⟩
  · have hR : R < W.heap.size := by
      obtain ⟨c, e, fr, hb', _⟩ := cell_parts ((hcell 0 h0).trans (List.getElem?_eq_getElem (by omega)))
      exact (Array.getElem?_eq_some_iff.1 hb').1
    refine ⟨.slice (some ⟨b, 0, none⟩) len cap, some (.row cs 1 true), cs, len, ⟨R, o, cap, 1⟩, .inr ⟨cap, true, rfl, rfl, by omega, hlc⟩, hb, hlen, (fun e h => by cases h; exact ⟨rfl, fun α => byteRow_any hb h0 hcs hcell⟩), hR, fun α h => ?_⟩
    exact VRel.slice b 0 len cap cap ⟨R, o, cap, 1⟩ h hlc (Nat.le_refl _) (by simp)

end Go.Xe

namespace Go.Xe.cacheOpens
open Go Go.Proofs Go.Proofs.YtkhjbbigangbdaaDoor Go.ChangeShapes Go.WideShapes Go.ChangeAt Go.RowKit

theorem own : ownKnob Tryd.prog.godebug = none := by kernel_rfl
theorem gWords : Tryd.prog.globalNamed "marginalia/value.words" = some 0 := by kernel_rfl
theorem gType : (Tryd.prog.globals[0]?).map (·.type) = some 67 := by kernel_rfl
theorem cells9 : Tryd.prog.cellsOf 9 = 1 := by kernel_rfl
theorem cells5 : Tryd.prog.cellsOf 5 = 1 := by kernel_rfl
theorem laid_out : laidOutB Tryd.prog = true := by kernel_rfl

def wordBytes : List (List UInt8) := [[105, 109, 112, 111, 114, 116], [116, 121, 112, 101], [100, 101, 102], [108, 101, 116], [105, 110], [105, 102], [116, 104, 101, 110], [101, 108, 115, 101], [109, 97, 116, 99, 104], [102, 110], [116, 114, 117, 101], [102, 97, 108, 115, 101]]
set_option maxRecDepth 100000 in
theorem words_is (i : Nat) (s : ByteArray) (h : wordBytes[i]? = some s.data.toList) : wordsL[i]? = some (.string s) := by
  have e : wordsL = wordBytes.map fun l => .string ⟨l.toArray⟩ := rfl
  rw [e, List.getElem?_map, h]
  rfl

set_option maxRecDepth 100000 in
theorem contract (H : Type) (enc : TypeId × Value → H) (W : World) (base : Nat) (args : Array Value) (ds gs : List (DataW H)) (before : List MemPlace)
    (hval : ∀ (j : Nat) t v, Tryd.f3.params[j]? = some t → args[j]? = some v → Value.okWide Tryd.prog W .any base t v)
    (hW : DataW.Whole enc Tryd.prog Tryd.f3.params.toList Rows.cacheOpensSpec.vars false W args.toList ds gs before) (hL : laidMetH Tryd.prog Rows.cacheOpensRow.laid W) (hk : Rows.uptoSmall H (ds ++ gs) = true) :
    Calls Tryd.prog 3 args W fun e W' => ∃ v, e = .returned v ∧ Rows.cacheOpensSpec.post enc Tryd.prog Tryd.f3 false true false false W args v W' := by
  have hW' := hW
  have hlt := hW.lt
  obtain ⟨p, q, hA0, hV, rfl, hfz, hnd⟩ := hW
  have hA : DataW.TrodAll enc Tryd.prog W 0 (fun _ => true) true Tryd.f3.params.toList args.toList ds p := hA0
  rw [Tryd.params3] at hA hval
  obtain ⟨v0, vs0, d0, ds0, p0, q0, hargs, rfl, rfl, h0, r0⟩ := trodAll_cons hA
  obtain ⟨v1, vs1, d1, ds1, p1, q1, rfl, rfl, rfl, h1, r1⟩ := trodAll_cons r0
  obtain ⟨v2, vs2, d2, ds2, p2, q2, rfl, rfl, rfl, h2, r2⟩ := trodAll_cons r1
  obtain ⟨v3, vs3, d3, ds3, p3, q3, rfl, rfl, rfl, h3, r3⟩ := trodAll_cons r2
  obtain ⟨rfl, rfl, rfl⟩ := trodAll_nil r3
  obtain rfl : args = #[v0, v1, v2, v3] := by cases args; simp_all
  obtain ⟨rfl, rfl⟩ := trodVars_none hV
  obtain ⟨n0, rfl, rfl, rfl, w0⟩ := open_int Tryd.underlying3 (hval 0 3 v0 rfl rfl) h0
  obtain ⟨n2, rfl, rfl, rfl, w2⟩ := open_int Tryd.underlying3 (hval 2 3 v2 rfl rfl) h2
  have o1 := Go.Xe.open_bytes Tryd.underlying22 Tryd.underlying5 cells5 (hval 1 22 v1 rfl rfl) h1
  have o3 := Go.Xe.open_bytes Tryd.underlying22 Tryd.underlying5 cells5 (hval 3 22 v3 rfl rfl) h3
  clear hA0
  simp only [List.append_nil, List.nil_append] at hW' hk hlt
  have hbulk : Rows.uptoBulkAll [DataW.lit (.int .i64 n0), d1, .lit (.int .i64 n2), d3] ≤ 1048576 := of_decide_eq_true hk
  have len_le : ∀ l : List (DataW H), l.length ≤ Rows.uptoBulkAll l := by
    intro l
    induction l with
    | nil => simp
    | cons x r ih =>
      have : 1 ≤ Rows.uptoBulk x := by
        cases x with
        | lit l => cases l <;> simp [Rows.uptoBulk]
        | _ => simp [Rows.uptoBulk]
      simp only [Rows.uptoBulkAll, List.length_cons]; omega
  simp only [Rows.uptoBulkAll] at hbulk
  have short : ∀ {d : DataW H} {elems spare : List (DataW H)} {len : Nat}, Rows.uptoBulk d ≤ 1048576 → d = .slice elems spare → elems.length = len → len < 2 ^ 40 := by
    intro d elems spare len hb hd he
    subst hd
    have := len_le elems
    simp only [Rows.uptoBulk] at hb
    omega
  obtain ⟨R, o, hg0, hws⟩ := strs_of_laid (l := wordBytes) gWords gType Tryd.underlying67 Tryd.underlying9 cells9 (by decide) hL
  have hg : W.heap[0]? ≠ none := by
    obtain ⟨c, e, fr, hb, _⟩ := cell_parts hg0
    rw [hb]; simp
  have h0s : 0 < W.heap.size := by
    obtain ⟨c, e, fr, hb, _⟩ := cell_parts hg0
    exact (Array.getElem?_eq_some_iff.1 hb).1
  have hRs : R < W.heap.size := by
    obtain ⟨s, hs, _⟩ := hws 0 (by decide)
    obtain ⟨c, e, fr, hb, _⟩ := cell_parts hs
    exact (Array.getElem?_eq_some_iff.1 hb).1
  have hlast : ∃ u, W.cell? ⟨R, o + (12 - 1), none⟩ = some u := by
    obtain ⟨s, hs, _⟩ := hws 11 (by decide)
    exact ⟨_, hs⟩
  have hwE : ∀ α : Place, EntRel α W ⟨R, o, 12, 1⟩ (gV wordsL) := fun α => ent_of_cells wordsL (Nat.le_of_ble_eq_true rfl) (by omega) hlast fun i v hi => by
    have hi' : i < wordBytes.length := (List.getElem?_eq_some_iff.1 hi).1
    obtain ⟨s, hs, hb⟩ := hws i hi'
    rw [words_is i s hb] at hi
    cases hi
    exact ⟨_, hs, .string s⟩
  have hw1 : ∀ α : Place, EntRel α W ⟨R, o, 12, 1⟩ (.row [] 1 true) := fun α => ent_of_cells [] (by simp) (by omega) hlast fun i v hi => by simp at hi
  obtain ⟨bv, eb, bb, lb, locb, hbv, hbb, hlb, heb, hlocb, hrb⟩ := arg_slice (l1 := ⟨R, o, 12, 1⟩) (v := v1) 2 hRs rfl hw1 (by
    rcases o1 with h | h | ⟨R, o, len, cap, cs, hv, hc0, hlc, hcs, hb, hcell, elems, spare, hd, hel, _⟩
    · exact .inl h
    · exact .inr (.inl h)
    · exact .inr (.inr ⟨R, o, len, cap, cs, hv, hc0, hlc, hcs, hb, hcell, short (by omega) hd hel⟩))
  obtain ⟨vv, ev, vs, lv, locv, hvv, hvs, hlv, hev, hlocv, hrv⟩ := arg_slice (l1 := ⟨R, o, 12, 1⟩) (v := v3) 3 hRs rfl hw1 (by
    rcases o3 with h | h | ⟨R, o, len, cap, cs, hv, hc0, hlc, hcs, hb, hcell, elems, spare, hd, hel, _⟩
    · exact .inl h
    · exact .inr (.inl h)
    · exact .inr (.inr ⟨R, o, len, cap, cs, hv, hc0, hlc, hcs, hb, hcell, short (by omega) hd hel⟩))
  let α : Place := fun i => if i = 0 then some ⟨0, 0, 1, 0⟩ else if i = 1 then some ⟨R, o, 12, 1⟩ else if i = 2 then some locb else if i = 3 then some locv else none
  have hro : ∀ i e, (tri gW (gV wordsL) eb ev [] 4).heap.get i = some e → e.ro = true := fun i e hi => by
    rcases get_tri hi with ⟨_, rfl⟩ | ⟨_, rfl⟩ | ⟨_, h⟩ | ⟨_, h⟩ | h
    · rfl
    · rfl
    · exact (heb e h).1
    · exact (hev e h).1
    · simp at h
  have some_lt : ∀ i l, α i = some l → i < 4 ∧ l.blk < W.heap.size ∧ (i < 1 → l.blk = i ∧ l.off = 0) := fun i l hi => by
    simp only [α] at hi
    split at hi
    · cases hi; rename_i h; subst h; exact ⟨by omega, h0s, fun _ => ⟨rfl, rfl⟩⟩
    · split at hi
      · cases hi; exact ⟨by omega, hRs, fun h => by omega⟩
      · split at hi
        · cases hi; exact ⟨by omega, hlocb, fun h => by omega⟩
        · split at hi
          · cases hi; exact ⟨by omega, hlocv, fun h => by omega⟩
          · cases hi
  have hr : Rel α (tri gW (gV wordsL) eb ev [] 4) W := by
    refine ⟨fun i e hi => ?_, fun i j e f l m hij hi hj hroo => ?_, fun i l hl => (some_lt i l hl).1, fun i l hl => (some_lt i l hl).2.1, fun i l hi hl => (some_lt i l hl).2.2 hi, Nat.le_of_ble_eq_true rfl⟩
    · rcases get_tri hi with ⟨rfl, rfl⟩ | ⟨rfl, rfl⟩ | ⟨rfl, h⟩ | ⟨rfl, h⟩ | h
      · refine ⟨⟨0, 0, 1, 0⟩, rfl, ent_of_cells [.slice (some ⟨1, 0, none⟩) 12 12] (by simp) (by omega) ⟨_, hg0⟩ fun i v hi => ?_⟩
        obtain rfl : i = 0 := by have := (List.getElem?_eq_some_iff.1 hi).1; simp at this; omega
        simp at hi; subst hi
        exact ⟨_, hg0, by rw [show wordBytes.length = 12 from rfl]; simpa using VRel.slice (α := α) 1 0 12 12 12 ⟨R, o, 12, 1⟩ rfl (Nat.le_refl _) (Nat.le_refl _) (by simp)⟩
      · exact ⟨_, rfl, hwE α⟩
      · exact ⟨_, rfl, (heb e h).2 α⟩
      · exact ⟨_, rfl, (hev e h).2 α⟩
      · simp at h
    · rw [hro i e hi, hro j f hj] at hroo
      rcases hroo with h | h <;> cases h
  have ha : LRel α [.int .i64 n0, bv, .int .i64 n2, vv] (#[.int .i64 n0, v1, .int .i64 n2, v3] : Array Value).toList :=
    .cons (.int _ _) (.cons (hrb α rfl) (.cons (.int _ _) (.cons (hrv α rfl) (.nil _))))
  refine (opens_calls appOk hbv hbb (by omega) hvv hvs (by omega) hr ha).mono fun e W' ⟨β, v', S', he, hn, hvr⟩ => ?_
  subst he
  cases hvr
  skip
  have hb : Below W.heap.size W W' := ⟨hn.frame.os, hn.frame.tape, hn.frame.output, hn.frame.size, fun b hb => hn.frame.block b hb fun i e l hi he => by rw [hro i e hi] at he; cases he⟩
  have hs1 : DataW.Trod enc Tryd.prog W' 0 (fun b => decide (b < W.heap.size)) true 22 v1 d1 p1 :=
    WideElems.Trod_stays laid_out (by kernel_rfl) (of_decide_eq_true (by kernel_rfl)) h1 (fun p hp => hb.same (hlt p (by simp [hp]))) (fun p hp => by simpa using hlt p (by simp [hp]))
  have hs3 : DataW.Trod enc Tryd.prog W' 0 (fun b => decide (b < W.heap.size)) true 22 v3 d3 p3 :=
    WideElems.Trod_stays laid_out (by kernel_rfl) (of_decide_eq_true (by kernel_rfl)) h3 (fun p hp => hb.same (hlt p (by simp [hp]))) (fun p hp => by simpa using hlt p (by simp [hp]))
  have hall := trodAll_cons_mk (shut_int Tryd.underlying3 w0) (trodAll_cons_mk hs1 (trodAll_cons_mk (shut_int Tryd.underlying3 w2) (trodAll_cons_mk hs3 (trodAll_mk0 (enc := enc) (P := Tryd.prog) (w := W') (base := 0) (spare := fun b => decide (b < W.heap.size)) (held := true)))))
  refine ⟨_, rfl, _, _, _, [], p1 ++ p3, [], hW', trodAll_cons_mk (shut_bool Tryd.underlying4 _) trodAll_mk0, ?_, rfl, hb.frame _, fun h => by cases h⟩
  rw [Tryd.params3]
  simp only [List.append_nil, List.nil_append] at hall
  exact hall
end Go.Xe.cacheOpens

namespace Go.Proofs.YtkhjbbigangbdaaDoor.cacheOpens
open Go Go.ChangeShapes Go.WideShapes Go.ChangeAt Go.RowKit

theorem own : ownKnob Tryd.prog.godebug = none := by kernel_rfl
noncomputable def w0 (os : Os) : World := World.laidAll Tryd.prog os Rows.cacheOpensRow.laid
def args0 : Array Value := #[.int .i64 0, .slice none 0 0, .int .i64 0, .slice none 0 0]
theorem laid_met (os : Os) : laidMet Tryd.prog Rows.cacheOpensRow.laid ((w0 os).forCall (fun _ _ => 0) ⟨#[], args0, []⟩).memory :=
  laidMet_laidAll _ (by kernel_rfl) (by kernel_rfl)
theorem reads (os : Os) {H : Type} (enc : TypeId × Value → H) : DataW.whole enc Tryd.prog ((w0 os).forCall (fun _ _ => 0) ⟨#[], args0, []⟩).memory Tryd.f3.params.toList Rows.cacheOpensSpec.vars false args0.toList 8 = some ([.lit (.int .i64 0), .nil, .lit (.int .i64 0), .nil], [], []) := by kernel_rfl

set_option maxRecDepth 100000 in
theorem lifted (os : Os) (started : os.Started) (H : Type) (enc : TypeId × Value → H) (F : Stop.Interp) :
    ReturnsInHanded {} Tryd.checked os 3 .any ((Rows.OpenSpec.upto Rows.cacheOpensSpec).preRow enc Tryd.prog Tryd.f3 Rows.cacheOpensUptoRow.domain false Rows.cacheOpensUptoRow.laid) (((Rows.OpenSpec.upto Rows.cacheOpensSpec).at F).post enc Tryd.prog Tryd.f3 false true false false) := by
  refine returnsInHanded_of_row (C := Tryd.checked) (s := Rows.OpenSpec.upto Rows.cacheOpensSpec) own started (by kernel_rfl) Tryd.func3
    (witness_row_atRef (enc := enc) (C := Tryd.checked) false (w0 os) args0 (World.laidAll_os _ _ _) (by kernel_rfl) (by kernel_rfl) (by kernel_rfl)
      (OpenSpec.preRow_of_cond 8 (reads os enc) (by kernel_rfl) (fun k hk => by cases hk; kernel_rfl) (by kernel_rfl) (laid_met os))) ?_
  intro W base args ds gs before hval hW _ hk _ hL _ _
  exact Xe.cacheOpens.contract H enc W base args ds gs before hval hW hL (hk _ rfl)

theorem saidUpto : Rows.CacheOpensUptoSaid :=
  OpenClaim.holds_of_cond 3 Tryd.f3 rfl rfl rfl rfl rfl rfl rfl ⟨rfl, rfl, rfl, rfl, rfl⟩ rfl rfl rfl rfl rfl (by kernel_rfl) Tryd.func3 (by kernel_rfl)
    (of_decide_eq_true (by kernel_rfl)) (by unfold Func.isWrapper; first | (rw [if_pos (by decide +kernel)]; kernel_rfl) | (rw [if_neg (by decide +kernel)]; exact ⟨rfl, rfl⟩))
    (fun os started H enc _ F => by rw [OpenClaim.pre_eq_preRow]; exact lifted os started H enc F)

theorem plain (f : FuncId) (fn : Func) (hf : Tryd.pinned.checked.prog.funcNamed "marginalia/marginalialaw29.CacheOpens" = some f) (hfn : Tryd.pinned.checked.prog.funcs[f]? = some fn) :
    false = Tryd.pinned.checked.prog.looks [] ∧ ∀ (j : Nat) t, fn.params[j]? = some t → Tryd.pinned.checked.prog.wantsStandIn t = false := by
  obtain rfl : f = 3 := Option.some.inj ((show Tryd.prog.funcNamed "marginalia/marginalialaw29.CacheOpens" = some 3 by kernel_rfl).symm.trans hf) |>.symm
  obtain rfl : fn = Tryd.f3 := (Option.some.inj (Tryd.func3.symm.trans hfn)).symm
  refine ⟨by kernel_rfl, fun j t ht => ?_⟩
  rw [Tryd.params3] at ht
  have hm : t ∈ [3, 22, 3, 22] := by simpa using Array.mem_of_getElem? ht
  have hall : ([3, 22, 3, 22].all fun u => !Tryd.prog.wantsStandIn u) = true := by kernel_rfl
  exact (show Tryd.prog.wantsStandIn t = false by simpa using List.all_eq_true.1 hall t hm)

theorem card : Rows.CacheOpensUptoCardSaid :=
  Claim7.holds_tied_plain_at .later [] _ _ _ _ saidUpto (fun _ h => by cases h) (by kernel_rfl) (fun _ h => by cases h) cacheOpensUpto_row_tie rfl ⟨rfl, rfl⟩ (by kernel_rfl) rfl plain (by kernel_rfl)
end Go.Proofs.YtkhjbbigangbdaaDoor.cacheOpens
