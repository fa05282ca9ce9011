/- A part of the proof. -/
import Derived.Test.YtkhjbbigangbdaaGreatDoorM13
import Derived.Test.YtkhjbbigangbdaaGreatDoorM18
set_option linter.all false
namespace Go.Xe
open Go Go.Proofs
theorem fpA (z k A bi : Nat) (wr : Value) (fu : Int) (df : Bool) : ycode Tryz.prog okN ycZ (kp 22) 100 (sub (codeOf Tryz.prog 22) [0]) (startX Tryz.f22 [.pointer (ad 100004), .int .i64 (A : Int), .int .i64 (bi : Int)]) (ofL [(100004, dRow z k wr fu df)] 200000) [] = (some (true, ((XE.normal, (slZ 114 [(0, Value.pointer (ad 100004)), (1, Value.int .i64 A), (2, Value.int .i64 bi)]), ⟨(ch 16 34469 (lr [Value.slice (ad 100005) z z, Value.slice (ad 100006) z z, wr, Value.int .i64 fu, Value.bool df] 0 false)), 200000, 0⟩), []))) := by kernel_rfl
theorem fpB (z k A bi : Nat) (wr : Value) (fu : Int) (df : Bool) : ycode Tryz.prog okN ycZ (kp 22) 100 (sub (codeOf Tryz.prog 22) [1,0]) (slZ 114 [(0, .pointer (ad 100004)), (1, .int .i64 A), (2, .int .i64 bi)]) (ofL [(100004, dRow z k wr fu df)] 200000) (bits 27 13434495) = (let x0 := !decide ((A : Int) < 0); let x1 := !decide ((z : Int) ≤ (A : Int)); let x2 := !decide ((bi : Int) < 0); some (tn 1 (!!decide (0 < (z : Int)) && (tn 1 (rp 7 x0 (tn 2 x0 && rp 2 x1 (tn 2 x1 && rp 2 x2 (tn 3 x2)))) && tn 1 (!decide (7 < (bi : Int))))), ((XE.normal, (slZ 114 [(0, Value.pointer (ad 100004)), (1, Value.int .i64 A), (2, Value.int .i64 bi), (13, Value.bool (decide (7 < (bi : Int))))]), ⟨(ch 16 34469 (lr [Value.slice (ad 100005) z z, Value.slice (ad 100006) z z, wr, Value.int .i64 fu, Value.bool df] 0 false)), 200000, 0⟩), []))) := by kernel_rfl
theorem fpC (z k A bi : Nat) (wr : Value) (now : List Value) (fu : Int) (df : Bool) : ycode Tryz.prog okN ycZ (kp 22) 100 (sub (codeOf Tryz.prog 22) [1,1,0]) (slZ 114 [(0, .pointer (ad 100004)), (1, .int .i64 A), (2, .int .i64 bi)]) (ofL [(100004, dRow z k wr fu df), (100005, .row now 1 false)] 200000) [] = (let x1 := [Value.slice (ad 100005) z z, Value.slice (ad 100006) z z, wr, Value.int .i64 fu, Value.bool df]; let x2 := Value.pointer (some ⟨100005, 0 + A * 1, none⟩); let x3 := tn 1 (decide ((A : Int) < (z : Int))); let x4 := List.getD now (0 + A * 1) undefX; let x0 := Value.int .u8 (IntKind.wrap .u8 (↑(BitVec.toNat (BitVec.ofInt 8 (intOf x4) ^^^ BitVec.ofInt 8 (IntKind.wrap .u8 (1 * 2 ^ min bi 8)))) : Int)); let x5 := decide (0 + A * 1 < List.length now); let x6 := decide (0 ≤ (A : Int)); let x7 := Value.int .u8 (IntKind.wrap .u8 (1 * 2 ^ min bi 8)); let x8 := tn 1 (isInt IntKind.u8 x4); some (tn 1 (tn 2 (x6 && x3) && (tn 2 (tn 1 x5 && x8) && (tn 3 (!decide ((bi : Int) < 0)) && (tn 2 (x6 && x3) && tn 4 (x5 && tn 1 (one x0))))) && tn 1 (tn 1 (same (List.getD x1 0 undefX) (List.getD x1 0 undefX)) && (tn 1 (same (Value.int .i64 A) (Value.int .i64 A)) && (tn 1 (x6 && x3) && tn 1 (same x2 x2) && (tn 1 (tn 1 x5 && x8) && tn 1 (same (Value.int .u8 (intOf x4)) (Value.int .u8 (intOf x4))) && (tn 1 (same (Value.int .i64 bi) (Value.int .i64 bi)) && (tn 2 (!decide ((bi : Int) < 0)) && tn 1 (same x7 x7) && (tn 1 (same x0 x0) && tn 1 (tn 1 (x6 && x3) && tn 1 (same x2 x2)))))))))), ((XE.normal, (slZ 114 [(0, Value.pointer (ad 100004)), (1, Value.int .i64 A), (2, Value.int .i64 bi)]), ⟨(nd (ch 15 17235 (lr (List.set now (0 + A * 1) x0) 1 false)) (ch 15 17234 (lr x1 0 false))), 200012, 0⟩), []))) := by kernel_rfl
theorem fpD (z k A bi : Nat) (wr : Value) (las : List Value) (fu : Int) (df : Bool) : ycode Tryz.prog okN ycZ (kp 22) 100 (sub (codeOf Tryz.prog 22) [1,1,1,0]) (slZ 114 [(0, .pointer (ad 100004)), (1, .int .i64 A), (2, .int .i64 bi)]) (ofL [(100004, dRow z k wr fu df), (100006, .row las 1 false)] 200000) [] = (let x1 := [Value.slice (ad 100005) z z, Value.slice (ad 100006) z z, wr, Value.int .i64 fu, Value.bool df]; let x2 := Value.pointer (some ⟨100006, 0 + A * 1, none⟩); let x3 := tn 1 (decide ((A : Int) < (z : Int))); let x4 := List.getD las (0 + A * 1) undefX; let x0 := Value.int .u8 (IntKind.wrap .u8 (↑(BitVec.toNat (BitVec.ofInt 8 (intOf x4) ^^^ BitVec.ofInt 8 (IntKind.wrap .u8 (1 * 2 ^ min bi 8)))) : Int)); let x5 := decide (0 + A * 1 < List.length las); let x6 := decide (0 ≤ (A : Int)); let x7 := Value.int .u8 (IntKind.wrap .u8 (1 * 2 ^ min bi 8)); let x8 := tn 1 (isInt IntKind.u8 x4); some (tn 1 (tn 2 (x6 && x3) && (tn 2 (tn 1 x5 && x8) && (tn 3 (!decide ((bi : Int) < 0)) && (tn 2 (x6 && x3) && tn 4 (x5 && tn 1 (one x0))))) && tn 1 (tn 1 (same (List.getD x1 1 undefX) (List.getD x1 1 undefX)) && (tn 1 (same (Value.int .i64 A) (Value.int .i64 A)) && (tn 1 (x6 && x3) && tn 1 (same x2 x2) && (tn 1 (tn 1 x5 && x8) && tn 1 (same (Value.int .u8 (intOf x4)) (Value.int .u8 (intOf x4))) && (tn 1 (same (Value.int .i64 bi) (Value.int .i64 bi)) && (tn 2 (!decide ((bi : Int) < 0)) && tn 1 (same x7 x7) && (tn 1 (same x0 x0) && tn 1 (tn 1 (x6 && x3) && tn 1 (same x2 x2)))))))))), ((XE.normal, (slZ 114 [(0, Value.pointer (ad 100004)), (1, Value.int .i64 A), (2, Value.int .i64 bi)]), ⟨(ri (nd (ch 14 8617 (lr x1 0 false)) (ch 14 8617 (lr (List.set las (0 + A * 1) x0) 1 false)))), 200012, 0⟩), []))) := by kernel_rfl
theorem fpE (z k A bi : Nat) (fu : Int) (df : Bool) : ycode Tryz.prog okN ycZ (kp 22) 100 (sub (codeOf Tryz.prog 22) [1,1,1,1,0,0]) (slZ 114 [(0, .pointer (ad 100004)), (1, .int .i64 A), (2, .int .i64 bi)]) (ofL [(100004, dRow z k (wrV 100007 k) fu df)] 200000) [] = (some (true, ((XE.normal, (slZ 114 [(0, Value.pointer (ad 100004)), (1, Value.int .i64 A), (2, Value.int .i64 bi), (59, Value.int .i64 k), (60, Value.int .i64 0)]), ⟨(ch 16 34469 (lr [Value.slice (ad 100005) z z, Value.slice (ad 100006) z z, Value.slice (ad 100007) k k, Value.int .i64 fu, Value.bool df] 0 false)), 200000, 0⟩), []))) := by kernel_rfl
theorem fpR (z k i a l A bi : Nat) (fu : Int) (df : Bool) (cs bs : List Value) : hcode Tryz.prog okN ycZ (kp 22) [(73, .int .i64 (a : Int)), (80, .int .i64 (a : Int)), (84, .slice (ad 199997) l l)] 100 (sub (codeOf Tryz.prog 22) [1,1,1,1,0,1,0,0]) (slZ 114 [(0, .pointer (ad 100004)), (1, .int .i64 A), (2, .int .i64 bi), (59, .int .i64 k), (60, .int .i64 (i : Int))]) (ofL [(100004, dRow z k (wrV 100007 k) fu df), (100007, .row cs 2 false), (199997, .row bs 1 false)] 200000) (bits 16 16383) = (let x0 := decide ((a : Int) ≤ (A : Int)); let x1 := List.getD cs (0 + i * 2 + 0) undefX; let x2 := tn 2 (same (Value.int .i64 (intOf x1)) (Value.int .i64 a)); let x3 := decide (0 + i * 2 + 0 < List.length cs); let x4 := decide ((i : Int) < (k : Int)); let x5 := tn 1 (isInt IntKind.i64 x1); some (tn 1 x4 && tn 2 (tn 4 (decide (0 ≤ (i : Int)) && tn 1 x4) && (tn 2 (tn 1 (tn 1 x3 && x5) && x2 && (tn 2 x0 && (tn 2 x0 && (tn 2 x0 && (tn 2 x0 && (tn 1 x0 && (tn 1 (tn 1 x3 && x5) && x2) && (tn 2 x0 && (tn 2 x0 && (tn 2 x0 && (tn 1 x0 && (tn 3 (decide (0 + i * 2 + 1 < List.length cs)) && tn 2 (same (List.getD cs (0 + i * 2 + 1) undefX) (Value.slice (ad 199997) l l))) && (tn 2 x0 && (tn 2 x0 && (tn 2 x0 && tn 3 x0))))))))))))) && tn 1 (!decide ((A : Int) < IntKind.wrap .i64 ((a : Int) + (l : Int)))))), ((XE.normal, (slZ 114 [(0, Value.pointer (ad 100004)), (1, Value.int .i64 A), (2, Value.int .i64 bi), (59, Value.int .i64 k), (60, Value.int .i64 (IntKind.wrap .i64 ((i : Int) + 1)))]), ⟨(nd (nd (ch 14 8618 (lr cs 2 false)) (ch 15 17231 (lr bs 1 false))) (ch 15 17234 (lr [Value.slice (ad 100005) z z, Value.slice (ad 100006) z z, Value.slice (ad 100007) k k, Value.int .i64 fu, Value.bool df] 0 false))), 200020, 0⟩), []))) := by kernel_rfl
theorem fpR0 (z k i a l A bi : Nat) (fu : Int) (df : Bool) (cs bs : List Value) : hcode Tryz.prog okN ycZ (kp 22) [(73, .int .i64 (a : Int)), (80, .int .i64 (a : Int)), (84, .slice (ad 199997) l l)] 100 (sub (codeOf Tryz.prog 22) [1,1,1,1,0,1,0,0]) (slZ 114 [(0, .pointer (ad 100004)), (1, .int .i64 A), (2, .int .i64 bi), (59, .int .i64 k), (60, .int .i64 (i : Int))]) (ofL [(100004, dRow z k (wrV 100007 k) fu df), (100007, .row cs 2 false), (199997, .row bs 1 false)] 200000) (bits 16 1) = (let x0 := !decide ((a : Int) ≤ (A : Int)); let x1 := List.getD cs (0 + i * 2 + 0) undefX; let x2 := decide ((i : Int) < (k : Int)); some (tn 1 x2 && tn 2 (tn 4 (decide (0 ≤ (i : Int)) && tn 1 x2) && tn 3 (tn 1 (tn 1 (decide (0 + i * 2 + 0 < List.length cs)) && tn 1 (isInt IntKind.i64 x1)) && tn 2 (same (Value.int .i64 (intOf x1)) (Value.int .i64 a)) && (tn 2 x0 && (tn 2 x0 && (tn 2 x0 && (tn 2 x0 && (tn 2 x0 && (tn 2 x0 && (tn 2 x0 && (tn 2 x0 && (tn 2 x0 && (tn 2 x0 && (tn 2 x0 && (tn 2 x0 && tn 3 x0)))))))))))))), ((XE.normal, (slZ 114 [(0, Value.pointer (ad 100004)), (1, Value.int .i64 A), (2, Value.int .i64 bi), (59, Value.int .i64 k), (60, Value.int .i64 (IntKind.wrap .i64 ((i : Int) + 1)))]), ⟨(nd (nd (ch 14 8618 (lr cs 2 false)) (ch 15 17231 (lr bs 1 false))) (ch 15 17234 (lr [Value.slice (ad 100005) z z, Value.slice (ad 100006) z z, Value.slice (ad 100007) k k, Value.int .i64 fu, Value.bool df] 0 false))), 200020, 0⟩), []))) := by kernel_rfl
theorem fpX (k i A bi : Nat) : ycode Tryz.prog okN ycZ (kp 22) 100 (sub (codeOf Tryz.prog 22) [1,1,1,1,0,1,0,0]) (slZ 114 [(0, .pointer (ad 100004)), (1, .int .i64 A), (2, .int .i64 bi), (59, .int .i64 k), (60, .int .i64 (i : Int))]) (ofL [] 200000) [false] = (let x0 := decide ((i : Int) < (k : Int)); some (tn 2 (!x0), ((XE.exit 1, (slZ 114 [(0, Value.pointer (ad 100004)), (1, Value.int .i64 A), (2, Value.int .i64 bi), (59, Value.int .i64 k), (60, Value.int .i64 i), (61, Value.bool (x0))]), { heap := PT.leaf, next := 200000, glob := 0 : St }), []))) := by kernel_rfl
theorem fpPost (k i A bi : Nat) : ycode Tryz.prog okN ycZ (kp 22) 100 (sub (codeOf Tryz.prog 22) [1,1,1,1,1]) (slZ 114 [(0, .pointer (ad 100004)), (1, .int .i64 A), (2, .int .i64 bi), (59, .int .i64 k), (60, .int .i64 i), (61, .bool (decide ((i : Int) < (k : Int))))]) (ofL [] 200000) [] = (some (true, ((XE.ret, (slZ 114 [(6, Value.int .i64 0)]), { heap := PT.leaf, next := 200000, glob := 0 : St }), []))) := by kernel_rfl
noncomputable abbrev fpL : Code := sub (codeOf Tryz.prog 22) [1,1,1,1,0,1,0,0]
theorem fpCode : codeOf Tryz.prog 22 = .seq (sub (codeOf Tryz.prog 22) [0]) (.seq (sub (codeOf Tryz.prog 22) [1,0]) (.seq (sub (codeOf Tryz.prog 22) [1,1,0]) (.seq (sub (codeOf Tryz.prog 22) [1,1,1,0]) (.seq (.seq (sub (codeOf Tryz.prog 22) [1,1,1,1,0,0]) (.block 1 (.loop fpL))) (sub (codeOf Tryz.prog 22) [1,1,1,1,1]))))) := by kernel_rfl
theorem fpBody : Tryz.f22.body = some (codeOf Tryz.prog 22) := by kernel_rfl
theorem fpGoodL : goodCode fpL = true := by kernel_rfl
theorem fpGoodA : goodCode (sub (codeOf Tryz.prog 22) [0]) = true := by kernel_rfl
theorem fpGoodB : goodCode (sub (codeOf Tryz.prog 22) [1,0]) = true := by kernel_rfl
theorem fpGoodC : goodCode (sub (codeOf Tryz.prog 22) [1,1,0]) = true := by kernel_rfl
theorem fpGoodD : goodCode (sub (codeOf Tryz.prog 22) [1,1,1,0]) = true := by kernel_rfl
theorem fpGoodE : goodCode (sub (codeOf Tryz.prog 22) [1,1,1,1,0,0]) = true := by kernel_rfl
theorem fpGoodP : goodCode (sub (codeOf Tryz.prog 22) [1,1,1,1,1]) = true := by kernel_rfl
def flipB (v : Value) (bi : Nat) : Value := .int .u8 (IntKind.wrap .u8 (((BitVec.ofInt 8 (intOf v) ^^^ BitVec.ofInt 8 (IntKind.wrap .u8 (1 * 2 ^ min bi 8))).toNat : Nat) : Int))
def flipL (l : List Value) (A bi : Nat) : List Value := l.set A (flipB (l.getD A undefX) bi)
theorem flipB_byte (v : Value) (bi : Nat) : isByte (flipB v bi) = true := by
 have h := (BitVec.ofInt 8 (intOf v) ^^^ BitVec.ofInt 8 (IntKind.wrap .u8 (1 * 2 ^ min bi 8))).isLt
 unfold flipB
 generalize (BitVec.ofInt 8 (intOf v) ^^^ BitVec.ofInt 8 (IntKind.wrap .u8 (1 * 2 ^ min bi 8))).toNat = n at h
 have e : IntKind.wrap .u8 (n : Int) = (n : Int) := by simp [IntKind.wrap, IntKind.bits, IntKind.signed]; omega
 rw [e]
 simp [isByte]; omega
theorem flipL_bytes {l : List Value} (h : l.all isByte = true) (A bi : Nat) : (flipL l A bi).all isByte = true := by
 rw [List.all_eq_true]
 intro v hv
 rcases List.mem_or_eq_of_mem_set hv with h1 | h1
 ·exact List.all_eq_true.1 h v h1
 ·rw [h1]; exact flipB_byte _ _
def fpH (A bi k i : Nat) : XAct := slZ 114 [(0, Value.pointer (some { block := 100004, off := 0 : Addr })), (1, .int .i64 (A : Int)), (2, .int .i64 (bi : Int)), (59, .int .i64 (k : Int)), (60, .int .i64 (i : Int))]
def fpZ (A bi k : Nat) : XAct := slZ 114 [(0, Value.pointer (some { block := 100004, off := 0 : Addr })), (1, .int .i64 (A : Int)), (2, .int .i64 (bi : Int)), (59, .int .i64 (k : Int)), (60, .int .i64 (k : Int)), (61, .bool false)]
theorem arrS_cells {q : Nat} {P : Pend} {i : Nat} {p : Nat × List Value} (h : P[i]? = some p) :
 (arrS q P i p.2.length).getD (0 + i * 2 + 0) undefX = .int .i64 (p.1 : Int) ∧ (arrS q P i p.2.length).getD (0 + i * 2 + 1) undefX = .slice (some ⟨199997, 0, none⟩) p.2.length p.2.length := by
 have h2 := arrS_take (q := q) h
 have key : ∀ j, j < 2 → (arrS q P i p.2.length).getD (0 + i * 2 + j) undefX = (List.take 2 (List.drop (0 + i * 2) (arrS q P i p.2.length))).getD j undefX := by
  intro j hj
  rw [List.getD_eq_getElem?_getD, List.getD_eq_getElem?_getD, List.getElem?_take, if_pos hj, List.getElem?_drop]
 rw [key 0 (by omega), key 1 (by omega), h2]
 exact ⟨rfl, rfl⟩
section
variable {P : Pend} {z A bi : Nat} {S : St} {now las : List Value} {fu : Int} {df : Bool}
structure FlipIn (P : Pend) (z : Nat) (S : St) (now las : List Value) (fu : Int) (df : Bool) (A bi : Nat) : Prop where
 p : PCond 0 P z S
 r4 : S.heap.get 100004 = some (dRow z P.length (wrV 100007 P.length) fu df)
 r5 : S.heap.get 100005 = some (.row now 1 false)
 r6 : S.heap.get 100006 = some (.row las 1 false)
 r7 : S.heap.get 100007 = some (.row (arrC 0 0 P) 2 false)
 len5 : now.length = z
 len6 : las.length = z
 bytes5 : now.all isByte = true
 bytes6 : las.all isByte = true
 lt : A < z
 bit : bi ≤ 7
 free : ∀ (i : Nat) p, P[i]? = some p → ¬ (p.1 ≤ A ∧ A < p.1 + p.2.length)
variable (I : FlipIn P z S now las fu df A bi)
include I
def flipped (now las : List Value) (A bi : Nat) : List (Nat × Ent) := [(100006, .row (flipL las A bi) 1 false), (100005, .row (flipL now A bi) 1 false)]
theorem flipped_low : ∀ k y, (k, y) ∈ flipped now las A bi → k < S.next ∧ LowR S.next y := by
 intro k y h
 have := I.p.next
 simp only [flipped, List.mem_cons, List.not_mem_nil, or_false, Prod.mk.injEq] at h
 rcases h with ⟨rfl, rfl⟩ | ⟨rfl, rfl⟩
 ·exact ⟨by omega, fun π _ => bytes_ren (flipL_bytes I.bytes6 _ _) π⟩
 ·exact ⟨by omega, fun π _ => bytes_ren (flipL_bytes I.bytes5 _ _) π⟩
theorem flipped_ne {j : Nat} (h5 : j ≠ 100005) (h6 : j ≠ 100006) : (putU S.heap (flipped now las A bi)).get j = S.heap.get j := by
 simp only [flipped, putU]
 rw [PT.get_set_ne _ _ h6, PT.get_set_ne _ _ h5]
theorem fp_round {i : Nat} {p : Nat × List Value} (h : P[i]? = some p) :
 SB Tryz.prog S fpL (fpH A bi P.length i) (S.ups (flipped now las A bi) S.next) .normal (fpH A bi P.length (i + 1)) (S.ups (flipped now las A bi) S.next) := by
 have hi := (List.getElem?_eq_some_iff.1 h).1
 have hm := I.p.many
 have hz := I.p.size
 have hlt := I.lt
 have hfit := I.p.fits p (List.mem_of_getElem? h)
 have hfree := I.free i p h
 have ht := tid_lt (i := i) (q := 0) (by omega) (by omega)
 have hmod := tid_mod (100 + 2 * i + 0)
 have e1 : IntKind.wrap IntKind.i64 ((i : Int) + 1) = ((i + 1 : Nat) : Int) := wrapAdd (b := 1) (by omega)
 have e2 : IntKind.wrap IntKind.i64 ((p.1 : Int) + (p.2.length : Int)) = ((p.1 + p.2.length : Nat) : Int) := wrapAdd (by omega)
 have f1 : decide ((i : Int) < (P.length : Int)) = true := decide_eq_true (by omega)
 have f2 : decide ((0 : Int) ≤ (i : Int)) = true := decide_eq_true (by omega)
 have f3 : decide (0 + i * 2 + 0 < (arrS 0 P i p.2.length).length) = true := decide_eq_true (by rw [arrS_length]; omega)
 have f4 : decide (0 + i * 2 + 1 < (arrS 0 P i p.2.length).length) = true := decide_eq_true (by rw [arrS_length]; omega)
 obtain ⟨c0, c1⟩ := arrS_cells (q := 0) h
 have f5 : isInt .i64 (Value.int .i64 (p.1 : Int)) = true := rfl
 have f6 : same (Value.int .i64 (intOf (.int .i64 (p.1 : Int)))) (.int .i64 (p.1 : Int)) = true := same_int _ _
 have f7 : same (Value.slice (some ⟨199997, 0, none⟩) p.2.length p.2.length) (.slice (some ⟨199997, 0, none⟩) p.2.length p.2.length) = true := same_slice _ _ _
 have key : ∀ (C' : St), Runs Tryz.prog okN (xgoO Tryz.prog okN orcZ kp 100) (kp 22) fpL (fpH A bi P.length i) (ofL ([(100004, dRow z P.length (wrV 100007 P.length) fu df)] ++ [(100007, .row (arrS 0 P i p.2.length) 2 false), (199997, .row p.2 1 false)]) 200000) .normal (fpH A bi P.length (i + 1)) C' → 200000 ≤ C'.next →
  C'.heap.get 100004 = some (dRow z P.length (wrV 100007 P.length) fu df) → C'.heap.get 100007 = some (.row (arrS 0 P i p.2.length) 2 false) → C'.heap.get 199997 = some (.row p.2 1 false) →
  SB Tryz.prog S fpL (fpH A bi P.length i) (S.ups (flipped now las A bi) S.next) .normal (fpH A bi P.length (i + 1)) (S.ups (flipped now las A bi) S.next) := by
  intro C' hrun hn' c4 ca cr
  refine SB.elem (l1 := []) I.p (by omega) h (by omega) callZ fpGoodL hrun hn' (by rw [flipped_ne I (by omega) (by omega)]; exact I.r7) (by rw [flipped_ne I (by omega) (by omega)]; exact I.p.rows i p h) (by omega) ca cr (fun x hx => ?_) (fun x hx => by cases hx) (fun i => rfl) (flipped_low I) (by kernel_rfl) (by kernel_rfl) rfl (fun i v hi => hi)
  obtain rfl := List.mem_singleton.1 hx
  exact ⟨Nat.le_of_ble_eq_true rfl, (show 100004 % 1024 ≠ 1022 by decide), by rw [flipped_ne I (show 100004 ≠ 100005 by decide) (show 100004 ≠ 100006 by decide)]; exact I.r4, fun π hk => lowE_ren hk (by kernel_rfl), .inr c4⟩
 by_cases h1 : p.1 ≤ A
 ·have g1 : decide ((p.1 : Int) ≤ (A : Int)) = true := decide_eq_true (by omega)
  have g2 : decide ((A : Int) < ((p.1 + p.2.length : Nat) : Int)) = false := decide_eq_false (by omega)
  have hr := fpR z P.length i p.1 p.2.length A bi fu df (arrS 0 P i p.2.length) p.2
  rw [e1, e2, c0, c1] at hr
  refine key _ (Runs.hpath yxZ hr ?_) (Nat.le_of_ble_eq_true rfl) (by kernel_rfl) (by kernel_rfl) (by kernel_rfl)
  simp only [f1, f2, f3, f4, f5, f6, f7, g1, g2]; rfl
 ·have g1 : decide ((p.1 : Int) ≤ (A : Int)) = false := decide_eq_false (by omega)
  have hr := fpR0 z P.length i p.1 p.2.length A bi fu df (arrS 0 P i p.2.length) p.2
  rw [e1, c0] at hr
  refine key _ (Runs.hpath yxZ hr ?_) (Nat.le_of_ble_eq_true rfl) (by kernel_rfl) (by kernel_rfl) (by kernel_rfl)
  simp only [f1, f2, f3, f5, f6, g1]; rfl
theorem fp_rounds : ∀ r i, i + r = P.length → SLB Tryz.prog S (r + 1) fpL (fpH A bi P.length i) (S.ups (flipped now las A bi) S.next) (.exit 1) (fpZ A bi P.length) (S.ups (flipped now las A bi) S.next)
 | 0, i, hr => by
  obtain rfl : i = P.length := by omega
  have h := fpX P.length P.length A bi
  have f1 : decide (((P.length : Nat) : Int) < (P.length : Int)) = false := decide_eq_false (by omega)
  simp only [f1] at h
  exact SLB.exit (SB.quiet (cl := []) callZ fpGoodL (Runs.path yxZ h rfl) I.p.low I.p.next (Nat.le_of_ble_eq_true rfl) (fun p hp => by cases hp) (flipped_low I) (by kernel_rfl) (by kernel_rfl) rfl (fun i v hi => hi))
 | r + 1, i, hr => by
  have hi : i < P.length := by omega
  exact SLB.step (fp_round I (List.getElem?_eq_getElem hi)) (fp_rounds r (i + 1) (by omega))
theorem fp_SR : SR Tryz.prog (codeOf Tryz.prog 22) (startX Tryz.f22 [.pointer (some ⟨100004, 0, none⟩), .int .i64 (A : Int), .int .i64 (bi : Int)]) S .ret (slZ 114 [(6, .int .i64 0)]) (S.ups (flipped now las A bi) S.next) := by
 rw [fpCode]
 have hn := I.p.next
 have hlt := I.lt
 have hbit := I.bit
 have nil : ∀ k (y : Ent), (k, y) ∈ ([] : List (Nat × Ent)) → k < S.next ∧ LowR S.next y := fun k y h => by cases h
 have row : ∀ {l : List (Nat × Ent)}, (putU S.heap l).get 100004 = some (dRow z P.length (wrV 100007 P.length) fu df) → ∀ {C' : St}, C'.heap.get 100004 = some (dRow z P.length (wrV 100007 P.length) fu df) →
  ∀ p, p ∈ [(100004, dRow z P.length (wrV 100007 P.length) fu df)] → p.1 < 199997 ∧ (putU S.heap l).get p.1 = some p.2 ∧ LowR 199997 p.2 ∧ C'.heap.get p.1 = some p.2 := by
  intro l hg C' h' p hp
  obtain rfl := List.mem_singleton.1 hp
  exact ⟨Nat.le_of_ble_eq_true rfl, hg, fun π hk => lowE_ren hk (by kernel_rfl), h'⟩
 have hA : SB Tryz.prog S _ _ S _ _ S := SB.quiet (lb := []) callZ fpGoodA (Runs.path yxZ (fpA z P.length A bi (wrV 100007 P.length) fu df) rfl) I.p.low hn (Nat.le_of_ble_eq_true rfl) (row (l := []) I.r4 (by kernel_rfl)) nil (by kernel_rfl) (by kernel_rfl) rfl (fun i v hi => hi)
 have g1 : decide ((0 : Int) < (z : Int)) = true := decide_eq_true (by omega)
 have g2 : decide ((A : Int) < 0) = false := decide_eq_false (by omega)
 have g3 : decide ((z : Int) ≤ (A : Int)) = false := decide_eq_false (by omega)
 have g4 : decide ((bi : Int) < 0) = false := decide_eq_false (by omega)
 have g5 : decide (7 < (bi : Int)) = false := decide_eq_false (by omega)
 have g6 : decide ((0 : Int) ≤ (A : Int)) = true := decide_eq_true (by omega)
 have g7 : decide ((A : Int) < (z : Int)) = true := decide_eq_true (by omega)
 let s3 : XAct := slZ 114 [(0, Value.pointer (some { block := 100004, off := 0 : Addr })), (1, .int .i64 (A : Int)), (2, .int .i64 (bi : Int))]
 have hB : SB Tryz.prog S (sub (codeOf Tryz.prog 22) [1,0]) s3 S .normal s3 S := by
  have h := fpB z P.length A bi (wrV 100007 P.length) fu df
  simp only [g1, g2, g3, g4, g5] at h
  refine SB.quiet (lb := []) callZ fpGoodB (Runs.path yxZ h rfl) I.p.low hn (Nat.le_of_ble_eq_true rfl) (row (l := []) I.r4 (by kernel_rfl)) nil (by kernel_rfl) (by kernel_rfl) rfl (fun i v hi => ?_)
  have h1 := slot_slZ hi
  simp only [List.mem_cons, List.not_mem_nil, or_false, Prod.mk.injEq] at h1
  rcases h1 with ⟨rfl, rfl⟩ | ⟨rfl, rfl⟩ | ⟨rfl, rfl⟩ <;> rfl
 have hC : SB Tryz.prog S (sub (codeOf Tryz.prog 22) [1,1,0]) s3 (S.ups [] S.next) .normal s3 (S.ups [(100005, .row (flipL now A bi) 1 false)] S.next) := by
  have h := fpC z P.length A bi (wrV 100007 P.length) now fu df
  have e0 : 0 + A * 1 = A := by omega
  have g8 : decide (A < now.length) = true := decide_eq_true (by rw [I.len5]; exact hlt)
  have g9 : isInt .u8 (now.getD A undefX) = true := isByte_int (byte_at I.bytes5 (by rw [I.len5]; exact hlt))
  simp only [e0, g4, g6, g7, g8, g9] at h
  refine SB.near (lb := []) (l1 := [(100005, .row (flipL now A bi) 1 false)]) callZ fpGoodC (Runs.path yxZ h (by
   repeat rw [same_of]
   ·rfl
   all_goals rfl)) I.p.low hn (Nat.le_of_ble_eq_true rfl) (fun x hx => ?_) (fun x hx => ?_) (fun i => rfl) (fun k y hy => ?_) (by kernel_rfl) (by kernel_rfl) rfl (fun i v hi => hi)
  ·simp only [List.mem_cons, List.not_mem_nil, or_false] at hx
   rcases hx with rfl | rfl
   ·exact ⟨Nat.le_of_ble_eq_true rfl, I.r4, fun π hk => lowE_ren hk (by kernel_rfl), .inr (by kernel_rfl)⟩
   ·exact ⟨Nat.le_of_ble_eq_true rfl, I.r5, fun π _ => bytes_ren I.bytes5 π, .inl ⟨_, List.mem_singleton.2 rfl⟩⟩
  ·obtain rfl := List.mem_singleton.1 hx
   exact ⟨Nat.le_of_ble_eq_true rfl, by kernel_rfl, fun π _ => bytes_ren (flipL_bytes I.bytes5 _ _) π, rfl⟩
  ·simp only [List.mem_cons, List.not_mem_nil, or_false, Prod.mk.injEq] at hy
   obtain ⟨rfl, rfl⟩ := hy
   exact ⟨by omega, fun π _ => bytes_ren (flipL_bytes I.bytes5 _ _) π⟩
 have hD : SB Tryz.prog S (sub (codeOf Tryz.prog 22) [1,1,1,0]) s3 (S.ups [(100005, .row (flipL now A bi) 1 false)] S.next) .normal s3 (S.ups (flipped now las A bi) S.next) := by
  have h := fpD z P.length A bi (wrV 100007 P.length) las fu df
  have e0 : 0 + A * 1 = A := by omega
  have g8 : decide (A < las.length) = true := decide_eq_true (by rw [I.len6]; exact hlt)
  have g9 : isInt .u8 (las.getD A undefX) = true := isByte_int (byte_at I.bytes6 (by rw [I.len6]; exact hlt))
  simp only [e0, g4, g6, g7, g8, g9] at h
  refine SB.near (l1 := [(100006, .row (flipL las A bi) 1 false)]) callZ fpGoodD (Runs.path yxZ h (by
   repeat rw [same_of]
   ·rfl
   all_goals rfl)) I.p.low hn (Nat.le_of_ble_eq_true rfl) (fun x hx => ?_) (fun x hx => ?_) (fun i => rfl) (flipped_low I) (by kernel_rfl) (by kernel_rfl) rfl (fun i v hi => hi)
  ·simp only [List.mem_cons, List.not_mem_nil, or_false] at hx
   rcases hx with rfl | rfl
   ·exact ⟨Nat.le_of_ble_eq_true rfl, by simp only [putU]; rw [PT.get_set_ne _ _ (by decide)]; exact I.r4, fun π hk => lowE_ren hk (by kernel_rfl), .inr (by kernel_rfl)⟩
   ·exact ⟨Nat.le_of_ble_eq_true rfl, by simp only [putU]; rw [PT.get_set_ne _ _ (by decide)]; exact I.r6, fun π _ => bytes_ren I.bytes6 π, .inl ⟨_, List.mem_singleton.2 rfl⟩⟩
  ·obtain rfl := List.mem_singleton.1 hx
   exact ⟨Nat.le_of_ble_eq_true rfl, by kernel_rfl, fun π _ => bytes_ren (flipL_bytes I.bytes6 _ _) π, rfl⟩
 have hE : SB Tryz.prog S (sub (codeOf Tryz.prog 22) [1,1,1,1,0,0]) s3 (S.ups (flipped now las A bi) S.next) .normal (fpH A bi P.length 0) (S.ups (flipped now las A bi) S.next) :=
  SB.quiet callZ fpGoodE (Runs.path yxZ (fpE z P.length A bi fu df) rfl) I.p.low hn (Nat.le_of_ble_eq_true rfl) (row (l := flipped now las A bi) (by rw [flipped_ne I (by decide) (by decide)]; exact I.r4) (by kernel_rfl)) (flipped_low I) (by kernel_rfl) (by kernel_rfl) rfl (fun i v hi => hi)
 have hP : SB Tryz.prog S (sub (codeOf Tryz.prog 22) [1,1,1,1,1]) (fpZ A bi P.length) (S.ups (flipped now las A bi) S.next) .ret (slZ 114 [(6, .int .i64 0)]) (S.ups (flipped now las A bi) S.next) := by
  have h := fpPost P.length P.length A bi
  have f1 : decide (((P.length : Nat) : Int) < (P.length : Int)) = false := decide_eq_false (by omega)
  simp only [f1] at h
  exact SB.quiet (cl := []) callZ fpGoodP (Runs.path yxZ h rfl) I.p.low hn (Nat.le_of_ble_eq_true rfl) (fun p hp => by cases hp) (flipped_low I) (by kernel_rfl) (by kernel_rfl) rfl (fun i v hi => hi)
 exact SR.ofB (SB.seq hA (SB.seq hB (SB.seq hC (SB.seq hD (SB.seq (SB.seq hE (SB.block_exit (SB.loop (fp_rounds I P.length 0 (by omega))))) hP)))))
end
noncomputable def flipF (P : Pend) (z : Nat) (args : List Value) (S : St) : Y (Value × St) :=
 match args, S.heap.get 100005, S.heap.get 100006 with
 | [.pointer (some ⟨100004, 0, none⟩), .int .i64 at0, .int .i64 b], some (.row now 1 false), some (.row las 1 false) => match S.heap.get 100004 with
  | some (.row [_, _, _, .int .i64 fu, .bool df] _ _) => .req (@decide (0 ≤ at0 ∧ 0 ≤ b ∧ FlipIn P z S now las fu df at0.toNat b.toNat) (Classical.propDecidable _)) (.pure (.int .i64 0, S.ups (flipped now las at0.toNat b.toNat) S.next))
  | _ => none
 | _, _, _ => none
theorem flipF_sound (P : Pend) (z : Nat) (args : List Value) (S : St) (v : Value) (S' : St) (hx : flipF P z args S = some (true, (v, S'))) (α : Place) (w : World) (args' : Array Value) (h : Rel α S w) (ha : LRel α args args'.toList) :
 Calls Tryz.prog 22 args' w fun e w' => ∃ β v', e = .returned v' ∧ Next α S w β S' w' ∧ VRel β v v' := by
 unfold flipF at hx
 split at hx
 ·split at hx
  ·simp only [Y.req_is, Y.pure_is, decide_eq_true_eq, Prod.mk.injEq] at hx
   obtain ⟨⟨h1, h2, I⟩, rfl, rfl⟩ := hx
   obtain ⟨A, rfl⟩ := Int.eq_ofNat_of_zero_le h1
   obtain ⟨M, rfl⟩ := Int.eq_ofNat_of_zero_le h2
   exact SR.calls Tryz.func22 fpBody (fp_SR I) (.inr rfl) (by kernel_rfl) h ha
  ·cases hx
 ·cases hx
end Go.Xe
