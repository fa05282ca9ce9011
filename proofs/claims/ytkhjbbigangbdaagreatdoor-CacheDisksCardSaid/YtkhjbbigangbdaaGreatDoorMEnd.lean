/-
  CacheDisks, with its card: for every input the call returns true, and the input reads as it did.
-/
import Derived.Test.YtkhjbbigangbdaaGreatDoorM47
import Derived.Test.YtkhjbbigangbdaaGreatDoorCards
import Derived.Test.YtkhjbbigangbdaaGreatDoorTie
import Derived.WalkKit
import Derived.ProofKit
import Derived.OpenShut
import Derived.Deep.DeepHandedRow
import Derived.Deep.DeepWitnessRowRef
import Derived.WideKeyArgs
import Derived.Lay
import Derived.SevenTiedAt
set_option linter.all false
namespace Go.Xe.cacheDisks
open Go Go.Proofs Go.Proofs.YtkhjbbigangbdaaGreatDoor Go.ChangeShapes Go.WideShapes Go.ChangeAt Go.RowKit
theorem gWords : Tryz.prog.globalNamed "marginalia/value.words" = some 0 := by kernel_rfl
theorem gType : (Tryz.prog.globals[0]?).map (·.type) = some 60 := by kernel_rfl
theorem cells9 : Tryz.prog.cellsOf 9 = 1 := by kernel_rfl
theorem cells5 : Tryz.prog.cellsOf 5 = 1 := by kernel_rfl
theorem cells4 : Tryz.prog.cellsOf 4 = 1 := by kernel_rfl
theorem cells36 : Tryz.prog.cellsOf 36 = 5 := by kernel_rfl
theorem cells33 : Tryz.prog.cellsOf 33 = 1 := by kernel_rfl
theorem cells34 : Tryz.prog.cellsOf 34 = 1 := by kernel_rfl
theorem cells3 : Tryz.prog.cellsOf 3 = 1 := by kernel_rfl
theorem laid_out : laidOutB Tryz.prog = true := by kernel_rfl
def wordBytes : List (List UInt8) := [[105, 109, 112, 111, 114, 116], [116, 121, 112, 101], [100, 101, 102], [108, 101, 116], [105, 110], [105, 102], [116, 104, 101, 110], [101, 108, 115, 101], [109, 97, 116, 99, 104], [102, 110], [116, 114, 117, 101], [102, 97, 108, 115, 101]]
set_option maxRecDepth 100000 in
theorem words_is (i : Nat) (s : ByteArray) (h : wordBytes[i]? = some s.data.toList) : wordsL[i]? = some (.string s) := by
 have e : wordsL = wordBytes.map fun l => .string ⟨l.toArray⟩ := rfl
 rw [e, List.getElem?_map, h]
 rfl
theorem list5 : ∀ {cs : List Value}, cs.length = 5 → ∃ v0 v1 v2 v3 v4, cs = [v0, v1, v2, v3, v4]
 | [v0, v1, v2, v3, v4], _ => ⟨v0, v1, v2, v3, v4, rfl⟩
section
variable {H : Type} {enc : TypeId × Value → H} {W : World}
theorem open_turn {l1 : Loc} (hl1 : l1.blk < W.heap.size) (hw1 : ∀ α, EntRel α W l1 (.row [] 1 true)) (i : Nat) {n : Nat} {cs : List Value} {x : DataW H × List MemPlace} (h : DataW.trod enc Tryz.prog W 0 (fun _ => true) true n 36 cs = some x) :
 ∃ d, TDok W i cs d := by
 obtain ⟨xs, m, _, _, hl, hlen, hf⟩ := DataW.trod_struct Tryz.underlying36 h
 rw [cells36] at hl
 obtain ⟨v0, v1, v2, v3, v4, rfl⟩ := list5 hl
 have h0 := hf 0 { name := "Kind", type := 5, offset := 0, embedded := false, tag := "", pkgPath := "", byteOffset := 0 } rfl
 dsimp only at h0
 rw [cells5] at h0
 change DataW.trod enc Tryz.prog W 0 (fun _ => true) true m 5 [v0] = _ at h0
 have h1 := hf 1 { name := "At", type := 3, offset := 1, embedded := false, tag := "", pkgPath := "", byteOffset := 8 } rfl
 dsimp only at h1
 rw [cells3] at h1
 change DataW.trod enc Tryz.prog W 0 (fun _ => true) true m 3 [v1] = _ at h1
 have h2 := hf 2 { name := "N", type := 3, offset := 2, embedded := false, tag := "", pkgPath := "", byteOffset := 16 } rfl
 dsimp only at h2
 rw [cells3] at h2
 change DataW.trod enc Tryz.prog W 0 (fun _ => true) true m 3 [v2] = _ at h2
 have h3 := hf 3 { name := "Bytes", type := 33, offset := 3, embedded := false, tag := "", pkgPath := "", byteOffset := 24 } rfl
 dsimp only at h3
 rw [cells33] at h3
 change DataW.trod enc Tryz.prog W 0 (fun _ => true) true m 33 [v3] = _ at h3
 have h4 := hf 4 { name := "Keep", type := 34, offset := 4, embedded := false, tag := "", pkgPath := "", byteOffset := 48 } rfl
 dsimp only at h4
 rw [cells34] at h4
 change DataW.trod enc Tryz.prog W 0 (fun _ => true) true m 34 [v4] = _ at h4
 have hx : ∀ k, k < 5 → ∃ y, xs[k]? = some y := fun k hk => ⟨xs[k]'(by rw [hlen]; exact hk), List.getElem?_eq_getElem _⟩
 obtain ⟨y0, e0⟩ := hx 0 (by decide)
 obtain ⟨y1, e1⟩ := hx 1 (by decide)
 obtain ⟨y2, e2⟩ := hx 2 (by decide)
 obtain ⟨y3, e3⟩ := hx 3 (by decide)
 obtain ⟨y4, e4⟩ := hx 4 (by decide)
 rw [e0] at h0
 rw [e1] at h1
 rw [e2] at h2
 rw [e3] at h3
 rw [e4] at h4
 obtain ⟨k0, g0, _, w0⟩ := DataW.trod_int Tryz.underlying5 h0
 obtain ⟨k1, g1, _, w1⟩ := DataW.trod_int Tryz.underlying3 h1
 obtain ⟨k2, g2, _, w2⟩ := DataW.trod_int Tryz.underlying3 h2
 have o3 := open_cells (q := isByte) Tryz.underlying33 cells5 (fun n V y hy => by
  obtain ⟨z, hz, _, hw⟩ := DataW.trod_int Tryz.underlying5 hy
  simp only [List.cons.injEq, and_true] at hz
  rw [hz]
  have hx : 0 ≤ z ∧ z ≤ 255 := by simpa [Lit.wf, IntKind.min, IntKind.max, IntKind.signed, IntKind.bits] using hw
  simp [isByte]; omega) h3
 have o4 := open_cells (q := isBool) Tryz.underlying34 cells4 (fun n V y hy => by
  obtain ⟨z, hz, _⟩ := DataW.trod_bool Tryz.underlying4 hy
  simp only [List.cons.injEq, and_true] at hz
  rw [hz]; rfl) h4
 obtain ⟨bv, eb, lb, hb⟩ := field_ok (fun v => isByte_plain) (uid (2 * i)) hl1 hw1 o3
 obtain ⟨kv, ek, lk, hk⟩ := field_ok (fun v => isBool_plain) (uid (2 * i + 1)) hl1 hw1 o4
 simp only [List.cons.injEq, and_true] at g0 g1 g2
 have r0 : 0 ≤ k0 ∧ k0 ≤ 255 := by simpa [Lit.wf, IntKind.min, IntKind.max, IntKind.signed, IntKind.bits] using w0
 have r1 : -9223372036854775808 ≤ k1 ∧ k1 ≤ 9223372036854775807 := by simpa [Lit.wf, IntKind.min, IntKind.max, IntKind.signed, IntKind.bits] using w1
 have r2 : -9223372036854775808 ≤ k2 ∧ k2 ≤ 9223372036854775807 := by simpa [Lit.wf, IntKind.min, IntKind.max, IntKind.signed, IntKind.bits] using w2
 exact ⟨⟨k0, k1, k2, bv, kv, eb, ek, lb, lk, v3, v4⟩, by rw [g0, g1, g2], r0.1, by simp only; omega, by simp only; omega, by simp only; omega, by simp only; omega, hb, hk⟩
theorem tCells_at {m : Nat} {f : Nat → TD} {i : Nat} {v : Value} (h : (tCells m f)[i]? = some v) : i / 5 < m ∧ [Value.int .u8 (f (i / 5)).kd, .int .i64 (f (i / 5)).at0, .int .i64 (f (i / 5)).n0, (f (i / 5)).bv, (f (i / 5)).kv][i % 5]? = some v := by
 have hi := (List.getElem?_eq_some_iff.1 h).1
 rw [tCells_length] at hi
 have hq : i / 5 < m := by omega
 refine ⟨hq, ?_⟩
 rw [← tCells_take f hq, List.getElem?_take, if_pos (by omega), List.getElem?_drop, show i / 5 * 5 + i % 5 = i by omega]
 exact h
theorem open_turns {R o : Nat} (hR : R < W.heap.size) (hlast : ∃ u, W.cell? ⟨R, o + (12 - 1), none⟩ = some u) {a : Option Addr} {len cap : Nat} {d : DataW H} {ps : List MemPlace} (h : DataW.Trod enc Tryz.prog W 0 (fun _ => true) true 22 (.slice a len cap) d ps) :
 ∃ (ta : Option Addr) (lt ct m : Nat) (f : Nat → TD) (cs : Nat → List Value) (l2 : Loc), ((ta = none ∧ lt = 0 ∧ ct = 0) ∨ ta = some ⟨2, 0, none⟩) ∧ (∀ i, i < lt → i < 40 → i < m) ∧ m ≤ 40 ∧ (∀ i, i < m → TDok W i (cs i) (f i)) ∧ l2.blk < W.heap.size ∧
  (∀ α : Place, (∀ i, i < m → α (uid (2 * i)) = some (f i).lb ∧ α (uid (2 * i + 1)) = some (f i).lk) → EntRel α W l2 (.row (tCells m f) 5 true)) ∧ (∀ α : Place, α 2 = some l2 → VRel α (.slice ta lt ct) (.slice a len cap)) := by
 have hl1 : (⟨R, o, 12, 1⟩ : Loc).blk < W.heap.size := hR
 have hw1 : ∀ α : Place, EntRel α W ⟨R, o, 12, 1⟩ (.row [] 1 true) := fun α => ent_of_cells [] (by simp) (by omega) hlast fun i v hi => by simp at hi
 have hw5 : ∀ α : Place, EntRel α W ⟨R, o, 12, 5⟩ (.row [] 5 true) := fun α => ent_of_cells [] (by simp) (by omega) hlast fun i v hi => by simp at hi
 obtain ⟨fuel, hd⟩ := h
 rcases Deep.open_slice Tryz.underlying22 hd with ⟨hx, _⟩ | ⟨a', len', cap', m, n, D, Pl, hcs, _, hlc, _, hm, hx, hall⟩
 ·simp only [Value.cells, List.cons.injEq, and_true] at hx
  obtain ⟨rfl, rfl, rfl⟩ : a = none ∧ len = 0 ∧ cap = 0 := by simpa using hx
  exact ⟨none, 0, 0, 0, default, default, ⟨R, o, 12, 5⟩, .inl ⟨rfl, rfl, rfl⟩, (fun i h => by omega), by omega, (fun i h => by omega), hR, fun α _ => hw5 α, fun α _ => .sliceNil⟩
 simp only [Value.cells, List.cons.injEq, Value.slice.injEq, and_true] at hcs
 obtain ⟨rfl, rfl, rfl⟩ := hcs
 have hm' : m = cap := by simpa using hm
 subst hm'
 by_cases hc0 : m = 0
 ·subst hc0
  obtain rfl : len = 0 := by omega
  exact ⟨some ⟨2, 0, none⟩, 0, 0, 0, default, default, ⟨R, o, 12, 5⟩, .inr rfl, (fun i h => by omega), by omega, (fun i h => by omega), hR, fun α _ => hw5 α, fun α _ => .sliceEnd _ _⟩
 obtain ⟨R2, o2, sR⟩ := a'
 have hcells : ∀ i, i < m → ∃ cs' : List Value, cs'.length = 5 ∧ (∀ k, k < 5 → W.cell? ((Addr.add ⟨R2, o2, sR⟩ (i * 5)).add k) = cs'[k]?) ∧ DataW.trod enc Tryz.prog W 0 (fun _ => true) true n 36 cs' = some (D i, Pl i) := fun i hi => by
  obtain ⟨cs', h1, h2⟩ := hall i hi
  rw [cells36] at h1
  obtain ⟨_, h3, h4⟩ := World.cells?_some h1
  exact ⟨cs', h3, h4, h2⟩
 obtain rfl : sR = none := by
  obtain ⟨cs', h1, h2, _⟩ := hcells 0 (by omega)
  have h3 := h2 0 (by decide)
  have e1 : ((Addr.add ⟨R2, o2, sR⟩ (0 * 5)).add 0) = ⟨R2, o2, sR⟩ := by simp [Addr.add]
  rw [e1, List.getElem?_eq_getElem (by omega)] at h3
  exact cell_spot h3
 have hchoose : ∀ i, ∃ cs' : List Value, i < m → cs'.length = 5 ∧ (∀ k, k < 5 → W.cell? ⟨R2, o2 + (i * 5 + k), none⟩ = cs'[k]?) ∧ DataW.trod enc Tryz.prog W 0 (fun _ => true) true n 36 cs' = some (D i, Pl i) := fun i => by
  by_cases hi : i < m
  ·obtain ⟨cs', h1, h2, h3⟩ := hcells i hi
   refine ⟨cs', fun _ => ⟨h1, fun k hk => ?_, h3⟩⟩
   rw [← h2 k hk, addr_add, addr_add, Nat.add_assoc]
  ·exact ⟨[], fun h => absurd h hi⟩
 obtain ⟨cs, hcs⟩ := Classical.axiomOfChoice hchoose
 have hf0 : ∀ i, ∃ td : TD, i < m → TDok W i (cs i) td := fun i => by
  by_cases hi : i < m
  ·obtain ⟨h1, h2, h3⟩ := hcs i hi
   obtain ⟨td, ht⟩ := open_turn hl1 hw1 i h3
   exact ⟨td, fun _ => ht⟩
  ·exact ⟨default, fun h => absurd h hi⟩
 obtain ⟨f, hf⟩ := Classical.axiomOfChoice hf0
 have hR2 : R2 < W.heap.size := by
  obtain ⟨h1, h2, _⟩ := hcs 0 (by omega)
  obtain ⟨c, e, fr, hb', _⟩ := cell_parts ((h2 0 (by decide)).trans (List.getElem?_eq_getElem (by omega)))
  exact (Array.getElem?_eq_some_iff.1 hb').1
 refine ⟨some ⟨2, 0, none⟩, len, m, min m 40, f, cs, ⟨R2, o2, m * 5, 5⟩, .inr rfl, fun i h1 h2 => by omega, by omega, fun i hi => hf i (by omega), hR2, fun α hα => ?_, fun α hα => ?_⟩
 ·refine ent_of_cells _ (by rw [tCells_length]; omega) (by omega) ?_ fun i v hi => ?_
  ·obtain ⟨h1, h2, _⟩ := hcs (m - 1) (by omega)
   refine ⟨_, (show W.cell? ⟨R2, o2 + (m * 5 - 1), none⟩ = W.cell? ⟨R2, o2 + ((m - 1) * 5 + 4), none⟩ by congr 2; omega).trans ((h2 4 (by decide)).trans (List.getElem?_eq_getElem (by omega)))⟩
  ·obtain ⟨hq, hv⟩ := tCells_at hi
   have hqm : i / 5 < m := by omega
   obtain ⟨h1, h2, _⟩ := hcs (i / 5) hqm
   have t := hf (i / 5) hqm
   obtain ⟨a1, a2⟩ := hα (i / 5) hq
   have hc := h2 (i % 5) (by omega)
   rw [show i / 5 * 5 + i % 5 = i by omega, t.cells] at hc
   have h5 : i % 5 = 0 ∨ i % 5 = 1 ∨ i % 5 = 2 ∨ i % 5 = 3 ∨ i % 5 = 4 := by omega
   rcases h5 with e | e | e | e | e <;> rw [e] at hc hv <;> simp only [List.getElem?_cons_succ, List.getElem?_cons_zero, Option.some.injEq] at hc hv <;> subst hv
   ·exact ⟨_, hc, .int _ _⟩
   ·exact ⟨_, hc, .int _ _⟩
   ·exact ⟨_, hc, .int _ _⟩
   ·exact ⟨_, hc, t.b.rel α a1⟩
   ·exact ⟨_, hc, t.k.rel α a2⟩
 ·exact VRel.slice 2 0 len m m ⟨R2, o2, m * 5, 5⟩ hα hlc (Nat.le_refl _) (by simp)
def aOf (m : Nat) (f : Nat → TD) (l0 lW l2 : Loc) : Place := fun i => if i = 0 then some l0 else if i = 1 then some lW else if i = 2 then some l2 else if i % 1024 = 1021 ∧ 2045 ≤ i ∧ (i / 1024 - 1) / 2 < m then (if (i / 1024 - 1) % 2 = 0 then some (f ((i / 1024 - 1) / 2)).lb else some (f ((i / 1024 - 1) / 2)).lk) else none
theorem aOf_b {m : Nat} {f : Nat → TD} {l0 lW l2 : Loc} {i : Nat} (hi : i < m) : aOf m f l0 lW l2 (uid (2 * i)) = some (f i).lb ∧ aOf m f l0 lW l2 (uid (2 * i + 1)) = some (f i).lk := by
 have u1 : uid (2 * i) = 2048 * i + 2045 := by unfold uid; omega
 have u2 : uid (2 * i + 1) = 2048 * i + 3069 := by unfold uid; omega
 rw [u1, u2]
 have e1 : (2048 * i + 2045) / 1024 - 1 = 2 * i := by omega
 have e2 : (2048 * i + 3069) / 1024 - 1 = 2 * i + 1 := by omega
 have b1 : (2048 * i + 2045) % 1024 = 1021 ∧ 2045 ≤ 2048 * i + 2045 := by omega
 have b2 : (2048 * i + 3069) % 1024 = 1021 ∧ 2045 ≤ 2048 * i + 3069 := by omega
 unfold aOf
 refine ⟨?_, ?_⟩
 ·rw [if_neg (by omega), if_neg (by omega), if_neg (by omega), e1, if_pos ⟨b1.1, b1.2, by omega⟩, if_pos (by omega), show 2 * i / 2 = i by omega]
 ·rw [if_neg (by omega), if_neg (by omega), if_neg (by omega), e2, if_pos ⟨b2.1, b2.2, by omega⟩, if_neg (by omega), show (2 * i + 1) / 2 = i by omega]
theorem aOf_some {m : Nat} {f : Nat → TD} {l0 lW l2 l : Loc} {i : Nat} (hm : m ≤ 40) (h : aOf m f l0 lW l2 i = some l) : i < 100003 ∧ (l = l0 ∧ i = 0 ∨ l = lW ∧ i = 1 ∨ l = l2 ∧ i = 2 ∨ 2 < i ∧ ∃ j, j < m ∧ (l = (f j).lb ∨ l = (f j).lk)) := by
 unfold aOf at h
 split at h
 ·cases h; rename_i h; exact ⟨by omega, .inl ⟨rfl, h⟩⟩
 ·split at h
  ·cases h; rename_i h; exact ⟨by omega, .inr (.inl ⟨rfl, h⟩)⟩
  ·split at h
   ·cases h; rename_i h; exact ⟨by omega, .inr (.inr (.inl ⟨rfl, h⟩))⟩
   ·split at h
    ·rename_i h0 h1 h2 hc
     obtain ⟨c1, c2, c3⟩ := hc
     refine ⟨by omega, .inr (.inr (.inr ⟨by omega, (i / 1024 - 1) / 2, c3, ?_⟩))⟩
     split at h <;> cases h
     ·exact .inl rfl
     ·exact .inr rfl
    ·cases h
end
set_option maxRecDepth 100000 in
theorem contract (H : Type) (enc : TypeId × Value → H) (W : World) (base : Nat) (args : Array Value) (ds gs : List (DataW H)) (before : List MemPlace)
 (hval : ∀ (j : Nat) t v, Tryz.f3.params[j]? = some t → args[j]? = some v → Value.okWide Tryz.prog W .any base t v)
 (hW : DataW.Whole enc Tryz.prog Tryz.f3.params.toList Rows.cacheDisksSpec.vars false W args.toList ds gs before) (hL : laidMetH Tryz.prog Rows.cacheDisksRow.laid W) :
 Calls Tryz.prog 3 args W fun e W' => ∃ v, e = .returned v ∧ Rows.cacheDisksSpec.post enc Tryz.prog Tryz.f3 false true false false W args v W' := by
 have hW' := hW
 have hlt := hW.lt
 obtain ⟨p, q, hA0, hV, rfl, hfz, hnd⟩ := hW
 have hA : DataW.TrodAll enc Tryz.prog W 0 (fun _ => true) true Tryz.f3.params.toList args.toList ds p := hA0
 rw [Tryz.params3] at hA hval
 obtain ⟨v0, vs0, d0, ds0, p0, q0, hargs, rfl, rfl, h0, r0⟩ := trodAll_cons hA
 obtain ⟨v1, vs1, d1, ds1, p1, q1, rfl, rfl, rfl, h1, r1⟩ := trodAll_cons r0
 obtain ⟨rfl, rfl, rfl⟩ := trodAll_nil r1
 obtain rfl : args = #[v0, v1] := by cases args; simp_all
 obtain ⟨rfl, rfl⟩ := trodVars_none hV
 obtain ⟨n0, rfl, rfl, rfl, w0⟩ := open_int Tryz.underlying3 (hval 0 3 v0 rfl rfl) h0
 obtain ⟨va, vlen, vcap, rfl⟩ := okWide_slice Tryz.underlying22 (hval 1 22 v1 rfl rfl)
 clear hA0
 simp only [List.append_nil, List.nil_append] at hW' hlt
 obtain ⟨R, o, hg0, hws⟩ := strs_of_laid (l := wordBytes) gWords gType Tryz.underlying60 Tryz.underlying9 cells9 (by decide) hL
 have h0s : 0 < W.heap.size := by
  obtain ⟨c, e, fr, hb, _⟩ := cell_parts hg0
  exact (Array.getElem?_eq_some_iff.1 hb).1
 have hRs : R < W.heap.size := by
  obtain ⟨s, hs, _⟩ := hws 0 (by decide)
  obtain ⟨c, e, fr, hb, _⟩ := cell_parts hs
  exact (Array.getElem?_eq_some_iff.1 hb).1
 have hlast : ∃ u, W.cell? ⟨R, o + (12 - 1), none⟩ = some u := by
  obtain ⟨s, hs, _⟩ := hws 11 (by decide)
  exact ⟨_, hs⟩
 have hwE : ∀ α : Place, EntRel α W ⟨R, o, 12, 1⟩ (gV wordsL) := fun α => ent_of_cells wordsL (Nat.le_of_ble_eq_true rfl) (by omega) hlast fun i v hi => by
  have hi' : i < wordBytes.length := (List.getElem?_eq_some_iff.1 hi).1
  obtain ⟨s, hs, hb⟩ := hws i hi'
  rw [words_is i s hb] at hi
  cases hi
  exact ⟨_, hs, .string s⟩
 obtain ⟨ta, lt, ct, m, f, cs, l2, hta, hml, hm40, hf, hl2, hent2, hrel2⟩ := open_turns hRs hlast h1
 obtain ⟨hT, hU⟩ := turnsIn_of hml hm40 (fun hl => by
  rcases hta with ⟨_, h, _⟩ | h
  ·omega
  ·exact h) hf
 obtain ⟨S', hcall⟩ := cd_all (ct := ct) hU hT hta n0
 have hα : ∀ i, i < m → aOf m f ⟨0, 0, 1, 0⟩ ⟨R, o, 12, 1⟩ l2 (uid (2 * i)) = some (f i).lb ∧ aOf m f ⟨0, 0, 1, 0⟩ ⟨R, o, 12, 1⟩ l2 (uid (2 * i + 1)) = some (f i).lk := fun i hi => aOf_b hi
 have hrow : ∀ j e, (uOf m f).get j = some e → e.ro = true ∧ ∃ l, aOf m f ⟨0, 0, 1, 0⟩ ⟨R, o, 12, 1⟩ l2 (uid j) = some l ∧ ∀ α, EntRel α W l e := fun j e hj => by
  obtain ⟨i, hi, hc⟩ := uOf_inv hj
  obtain ⟨a1, a2⟩ := hα i hi
  rcases hc with ⟨rfl, he⟩ | ⟨rfl, he⟩
  ·obtain ⟨h1, h2⟩ := (hf i hi).b.ent e he
   exact ⟨h1, _, a1, h2⟩
  ·obtain ⟨h1, h2⟩ := (hf i hi).k.ent e he
   exact ⟨h1, _, a2, h2⟩
 have hro : ∀ i e, (b0St (uOf m f) (.row (tCells m f) 5 true)).heap.get i = some e → e.ro = true := fun i e hi => by
  rcases b0_get hi with ⟨_, rfl⟩ | ⟨_, rfl⟩ | ⟨_, rfl⟩ | ⟨j, _, hj⟩
  ·rfl
  ·rfl
  ·rfl
  ·exact (hrow j e hj).1
 have hr : Rel (aOf m f ⟨0, 0, 1, 0⟩ ⟨R, o, 12, 1⟩ l2) (b0St (uOf m f) (.row (tCells m f) 5 true)) W := by
  refine ⟨fun i e hi => ?_, fun i j e g l q hij hi hj hroo => ?_, fun i l hl => (aOf_some hm40 hl).1, fun i l hl => ?_, fun i l hi hl => ?_, Nat.le_of_ble_eq_true rfl⟩
  ·rcases b0_get hi with ⟨rfl, rfl⟩ | ⟨rfl, rfl⟩ | ⟨rfl, rfl⟩ | ⟨j, rfl, hj⟩
   ·refine ⟨⟨0, 0, 1, 0⟩, rfl, ent_of_cells [.slice (some ⟨1, 0, none⟩) 12 12] (by simp) (by omega) ⟨_, hg0⟩ fun i v hi => ?_⟩
    obtain rfl : i = 0 := by have := (List.getElem?_eq_some_iff.1 hi).1; simp at this; omega
    simp at hi; subst hi
    exact ⟨_, hg0, by rw [show wordBytes.length = 12 from rfl]; simpa using VRel.slice (α := aOf m f ⟨0, 0, 1, 0⟩ ⟨R, o, 12, 1⟩ l2) 1 0 12 12 12 ⟨R, o, 12, 1⟩ rfl (Nat.le_refl _) (Nat.le_refl _) (by simp)⟩
   ·exact ⟨_, rfl, hwE _⟩
   ·exact ⟨_, rfl, hent2 _ hα⟩
   ·obtain ⟨_, l, hl, he⟩ := hrow j e hj
    exact ⟨l, hl, he _⟩
  ·rw [hro i e hi, hro j g hj] at hroo
   rcases hroo with h | h <;> cases h
  ·rcases (aOf_some hm40 hl).2 with ⟨rfl, _⟩ | ⟨rfl, _⟩ | ⟨rfl, _⟩ | ⟨_, j, hj, rfl | rfl⟩
   ·exact h0s
   ·exact hRs
   ·exact hl2
   ·exact (hf j hj).b.blk
   ·exact (hf j hj).k.blk
  ·have hi' : i < 1 := hi
   rcases (aOf_some hm40 hl).2 with ⟨rfl, h⟩ | ⟨_, h⟩ | ⟨_, h⟩ | ⟨h, _⟩
   ·exact ⟨h.symm, rfl⟩
   ·omega
   ·omega
   ·omega
 have ha : LRel (aOf m f ⟨0, 0, 1, 0⟩ ⟨R, o, 12, 1⟩ l2) [.int .i64 n0, .slice ta lt ct] (#[.int .i64 n0, .slice va vlen vcap] : Array Value).toList :=
  .cons (.int _ _) (.cons (hrel2 _ rfl) (.nil _))
 refine (hcall _ W _ hr ha).mono fun e W' ⟨β, v', he, hn, hvr⟩ => ?_
 subst he
 cases hvr
 have hb : Below W.heap.size W W' := ⟨hn.frame.os, hn.frame.tape, hn.frame.output, hn.frame.size, fun b hb => hn.frame.block b hb fun i e l hi he => by rw [hro i e hi] at he; cases he⟩
 have hs1 : DataW.Trod enc Tryz.prog W' 0 (fun b => decide (b < W.heap.size)) true 22 (.slice va vlen vcap) d1 p1 :=
  WideElems.Trod_stays laid_out (by kernel_rfl) (of_decide_eq_true (by kernel_rfl)) h1 (fun p hp => hb.same (hlt p (by simp [hp]))) (fun p hp => by simpa using hlt p (by simp [hp]))
 have hall := trodAll_cons_mk (shut_int Tryz.underlying3 w0) (trodAll_cons_mk hs1 (trodAll_mk0 (enc := enc) (P := Tryz.prog) (w := W') (base := 0) (spare := fun b => decide (b < W.heap.size)) (held := true)))
 refine ⟨_, rfl, _, _, _, [], p1, [], hW', trodAll_cons_mk (shut_bool Tryz.underlying4 _) trodAll_mk0, ?_, rfl, hb.frame _, fun h => by cases h⟩
 rw [Tryz.params3]
 simp only [List.append_nil, List.nil_append] at hall
 exact hall
end Go.Xe.cacheDisks
namespace Go.Proofs.YtkhjbbigangbdaaGreatDoor.cacheDisks
open Go Go.ChangeShapes Go.WideShapes Go.ChangeAt Go.RowKit
theorem own : ownKnob Tryz.prog.godebug = none := by kernel_rfl
noncomputable def w0 (os : Os) : World := World.laidAll Tryz.prog os Rows.cacheDisksRow.laid
def args0 : Array Value := #[.int .i64 0, .slice none 0 0]
theorem laid_met (os : Os) : laidMet Tryz.prog Rows.cacheDisksRow.laid ((w0 os).forCall (fun _ _ => 0) ⟨#[], args0, []⟩).memory :=
 laidMet_laidAll _ (by kernel_rfl) (by kernel_rfl)
theorem reads (os : Os) {H : Type} (enc : TypeId × Value → H) : DataW.whole enc Tryz.prog ((w0 os).forCall (fun _ _ => 0) ⟨#[], args0, []⟩).memory Tryz.f3.params.toList Rows.cacheDisksSpec.vars false args0.toList 8 = some ([.lit (.int .i64 0), .nil], [], []) := by kernel_rfl
set_option maxRecDepth 100000 in
theorem lifted (os : Os) (started : os.Started) (H : Type) (enc : TypeId × Value → H) (F : Stop.Interp) :
 ReturnsInHanded {} Tryz.checked os 3 .any ((OpenSpec.ofChange Rows.cacheDisksSpec).preRow enc Tryz.prog Tryz.f3 Rows.cacheDisksRow.domain false Rows.cacheDisksRow.laid) (((OpenSpec.ofChange Rows.cacheDisksSpec).at F).post enc Tryz.prog Tryz.f3 false true false false) := by
 refine returnsInHanded_of_row (C := Tryz.checked) (s := OpenSpec.ofChange Rows.cacheDisksSpec) own started (by kernel_rfl) Tryz.func3
  (witness_row_atRef (enc := enc) (C := Tryz.checked) false (w0 os) args0 (World.laidAll_os _ _ _) (by kernel_rfl) (by kernel_rfl) (by kernel_rfl)
   (OpenSpec.preRow_of_cond 8 (reads os enc) (by kernel_rfl) (fun k hk => by cases hk) (by kernel_rfl) (laid_met os))) ?_
 intro W base args ds gs before hval hW _ _ _ hL _ _
 exact Xe.cacheDisks.contract H enc W base args ds gs before hval hW hL
theorem said : Rows.CacheDisksSaid :=
 OpenClaim.holds_of_cond 3 Tryz.f3 rfl rfl rfl rfl rfl rfl rfl ⟨rfl, rfl, rfl, rfl, rfl⟩ rfl rfl rfl rfl rfl (by kernel_rfl) Tryz.func3 (by kernel_rfl)
  (of_decide_eq_true (by kernel_rfl)) (by unfold Func.isWrapper; first | (rw [if_pos (by decide +kernel)]; kernel_rfl) | (rw [if_neg (by decide +kernel)]; exact ⟨rfl, rfl⟩))
  (fun os started H enc _ F => by rw [OpenClaim.pre_eq_preRow]; exact lifted os started H enc F)
theorem plain (f : FuncId) (fn : Func) (hf : Tryz.pinned.checked.prog.funcNamed "marginalia/marginalialaw29.CacheDisks" = some f) (hfn : Tryz.pinned.checked.prog.funcs[f]? = some fn) :
 false = Tryz.pinned.checked.prog.looks [] ∧ ∀ (j : Nat) t, fn.params[j]? = some t → Tryz.pinned.checked.prog.wantsStandIn t = false := by
 obtain rfl : f = 3 := Option.some.inj ((show Tryz.prog.funcNamed "marginalia/marginalialaw29.CacheDisks" = some 3 by kernel_rfl).symm.trans hf) |>.symm
 obtain rfl : fn = Tryz.f3 := (Option.some.inj (Tryz.func3.symm.trans hfn)).symm
 refine ⟨by kernel_rfl, fun j t ht => ?_⟩
 rw [Tryz.params3] at ht
 have hm : t ∈ [3, 22] := by simpa using Array.mem_of_getElem? ht
 have hall : ([3, 22].all fun u => !Tryz.prog.wantsStandIn u) = true := by kernel_rfl
 exact (show Tryz.prog.wantsStandIn t = false by simpa using List.all_eq_true.1 hall t hm)
theorem card : Rows.CacheDisksCardSaid :=
 Claim7.holds_tied_plain_at .later [] _ _ _ _ said (fun _ h => by cases h) (by kernel_rfl) (fun _ h => by cases h) cacheDisks_row_tie rfl ⟨rfl, rfl⟩ (by kernel_rfl) rfl plain (by kernel_rfl)
end Go.Proofs.YtkhjbbigangbdaaGreatDoor.cacheDisks
