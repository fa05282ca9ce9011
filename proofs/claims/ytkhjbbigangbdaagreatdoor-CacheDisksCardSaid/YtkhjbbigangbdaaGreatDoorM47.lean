/- A part of the proof. -/
import Derived.Test.YtkhjbbigangbdaaGreatDoorM37
import Derived.Test.YtkhjbbigangbdaaGreatDoorM46
import Derived.Test.YtkhjbbigangbdaaGreatDoorM11
import Derived.ChangeArms
import Derived.ChangeAt
import Derived.Deep.Slices
import Derived.Lib.LaidTab
import Derived.Lib.LaidU8
import Derived.RowKit
import Derived.WideShapes
set_option linter.all false
namespace Go.Xe
open Go Go.Proofs
section
variable {Pg : Program} {okF : FuncId → Bool} {call : XCall} {fg : Nat → Option Nat} {z : Code} {a1 : XAct} {S1 : St}
theorem SR.partsB {a a' b : XAct} {S S' T : St} {e : XE} (hm : Pg.follows .mixedOrders = true) (hF : OkF Pg okF) (hC : CallSound Pg call) {l : List Code} (hl : l ≠ []) (hg : goodCode (seqs l) = true)
 (h : Runs Pg okF call fg (seqs l) a S .normal a1 S1) (mv : Moves S a1 S1 b T) (h' : SB Pg S z b T e a' S') : SR Pg (appL l z) a S e a' S' :=
 fun α w act Q hr ha hQ => parts_go hm hF hC l a S hl hg h α α S w w act Q (Next.refl hr) ha (fun γ w' act' hn ha' hd => by
  obtain ⟨γ', hn', ha''⟩ := mv α γ w w' _ hr hn ha'
  exact h' α w hr γ' w' act' Q hn' ha'' (fun δ w'' act'' hn'' hb hd' => hQ δ w'' act'' hn'' hb (hd'.trans hd)))
end
theorem alive_calls {S : St} (h0 : S.heap.get 0 = some gW) (h1 : S.heap.get 1 = some (gV wordsL)) (hg : 1 ≤ S.glob) : CallsTo 8 [] S (.bool true) S := fun α w args' hr ha =>
 aliveF_sound appOk 0 [] S (.bool true) S (by
  unfold aliveF
  rw [h0, h1]
  simp only [gW, gV]
  rw [show sameL wordsL wordsL = true from flatL_same (by kernel_rfl), decide_eq_true hg]
  rfl) α w args' hr ha
def b0St (U : PT Ent) (g2 : Ent) : St := { heap := putL (seedU U) [(0, gW), (1, gV wordsL), (2, g2)], next := 100003, glob := 1 }
structure UOk (U : PT Ent) (g2 : Ent) : Prop where
 rows : ∀ j e, U.get j = some e → uid j < 100003 ∧ LowR 100003 e
 two : LowR 100003 g2
theorem seedU_uid (U : PT Ent) (j : Nat) : (seedU U).get (uid j) = U.get j := get_uid _ _
theorem seedU_get {U : PT Ent} {i : Nat} {e : Ent} (h : (seedU U).get i = some e) : ∃ j, i = uid j ∧ U.get j = some e := by
 rw [get_split] at h
 split at h
 ·cases h
 ·split at h
  ·obtain ⟨m, h2, h3⟩ := get_rgt 9 U _ e h
   exact ⟨m, by unfold uid; omega, h3⟩
  ·simp [seedU, rt, PT.get] at h
theorem b0_get {U : PT Ent} {g2 : Ent} {i : Nat} {e : Ent} (h : (b0St U g2).heap.get i = some e) : (i = 0 ∧ e = gW) ∨ (i = 1 ∧ e = gV wordsL) ∨ (i = 2 ∧ e = g2) ∨ ∃ j, i = uid j ∧ U.get j = some e := by
 have h' : (putL (seedU U) [(0, gW), (1, gV wordsL), (2, g2)]).get i = some e := h
 rcases get_putL _ _ _ _ h' with h1 | h1
 ·exact .inr (.inr (.inr (seedU_get h1)))
 ·simp only [List.mem_cons, List.not_mem_nil, or_false, Prod.mk.injEq] at h1
  rcases h1 with h1 | h1 | h1
  ·exact .inl h1
  ·exact .inr (.inl h1)
  ·exact .inr (.inr (.inl h1))
theorem b0_uid {U : PT Ent} {g2 : Ent} (j : Nat) (hj : 2 < uid j) : (b0St U g2).heap.get (uid j) = U.get j := by
 show (putL (seedU U) [(0, gW), (1, gV wordsL), (2, g2)]).get (uid j) = _
 rw [get_putL_of _ _ _ (fun y hy => ?_), seedU_uid]
 simp only [List.mem_cons, List.not_mem_nil, or_false, Prod.mk.injEq] at hy
 omega
theorem b0_low {U : PT Ent} {g2 : Ent} (h : UOk U g2) : LowSt (b0St U g2) := ⟨Nat.le_of_ble_eq_true rfl, fun i e hi => by
 show i < 100003 ∧ ∀ π, Keeps 100003 π → RenE π e e
 rcases b0_get hi with ⟨rfl, rfl⟩ | ⟨rfl, rfl⟩ | ⟨rfl, rfl⟩ | ⟨j, rfl, h1⟩
 ·exact ⟨by decide, fun π hk => lowE_ren hk (by kernel_rfl)⟩
 ·exact ⟨by decide, fun π hk => .plain wordsL_plain⟩
 ·exact ⟨by decide, h.two⟩
 ·exact h.rows j e h1⟩
noncomputable abbrev cdParts : List Code := [(sub (codeOf Tryz.prog 3) [0]), (sub (codeOf Tryz.prog 3) [1,0]), (sub (codeOf Tryz.prog 3) [1,1,0]), (sub (codeOf Tryz.prog 3) [1,1,1,0])]
theorem cdCode : codeOf Tryz.prog 3 = appL cdParts (.seq (.seq (sub (codeOf Tryz.prog 3) [1,1,1,1,0,0]) (.block 0 (.loop cdL))) (sub (codeOf Tryz.prog 3) [1,1,1,1,1])) := by kernel_rfl
theorem cdBody : Tryz.f3.body = some (codeOf Tryz.prog 3) := by kernel_rfl
theorem cdGood : goodCode (codeOf Tryz.prog 3) = true := by kernel_rfl
theorem cdGoodP : goodCode (seqs cdParts) = true := by kernel_rfl
theorem cdGoodI : goodCode (sub (codeOf Tryz.prog 3) [1,1,1,1,0,0]) = true := by kernel_rfl
theorem cdGoodE : goodCode (sub (codeOf Tryz.prog 3) [1,1,1,1,1]) = true := by kernel_rfl
def cdRet : XAct := nn 4 ++ [some (Value.bool true)] ++ nn 86
theorem cdRet_res (S : St) : xres Tryz.prog Tryz.f3 cdRet S = some (.bool true) := by kernel_rfl
section
variable {U : PT Ent} {g2 : Ent} {P : Pend} {z n : Nat} {las : List Value} {fu : Int} {off : Bool}
theorem cd_end (hU : UOk U g2) (I : DInv n P z las fu) : ∃ S', SB Tryz.prog (b0St U g2) (sub (codeOf Tryz.prog 3) [1,1,1,1,1]) slCd (kSt (b0St U g2) P z las fu off) .ret cdRet S' := by
 have hz := I.size
 have hp := I.pos
 have hll := I.len
 have hl := now_len I
 have hby := now_bytes I
 have hlow : ∀ i, 200000 ≤ i → (kSt (b0St U g2) P z las fu off).heap.get i = none := fun i hi => by
  cases hx : (kSt (b0St U g2) P z las fu off).heap.get i with
  | none => rfl
  | some e =>
   rcases k_inv hx with h | h
   ·have := k_lt I h; omega
   ·have := ((b0_low hU).2 i e h).1
    have : i < 100003 := this
    omega
 have pins : ∀ p, p ∈ endPins gW (gV wordsL) z (applyP las P) las fu off (!off) (wD P) (wS P) → (kSt (b0St U g2) P z las fu off).heap.get p.1 = p.2 := fun p hp => by
  rcases List.mem_append.1 hp with h | h
  ·simp only [List.mem_cons, List.not_mem_nil, or_false] at h
   rcases h with rfl | rfl | rfl | rfl | rfl | rfl | rfl | rfl
   ·simp only; rw [k_old (by decide)]; kernel_rfl
   ·simp only; rw [k_old (by decide)]; kernel_rfl
   ·exact k_getM (by simp [kMain])
   ·exact k_getM (by simp [kMain])
   ·exact k_getM (by simp [kMain])
   ·exact k_getM (by simp [kMain])
   ·exact k_getM (by simp [kMain])
   ·exact k_getM (by simp [kMain])
  ·obtain ⟨i, _, rfl⟩ := List.mem_map.1 h
   exact hlow _ (by simp only; omega)
 have h := cdEnd (kSt (b0St U g2) P z las fu off) gW (gV wordsL) z (applyP las P) las fu off (!off) (wD P) (wS P)
 have e1 : List.take z las = las := List.take_of_length_le (by omega)
 have e2 : splice (applyP las P) 0 las = las := spliceA (by omega)
 have e3 : IntKind.wrap .i64 (z : Int) = (z : Int) := wrap64 (by omega) (by omega)
 have ha : CallsTo 8 [] (endOf (cdEndY (kSt (b0St U g2) P z las fu off) gW (gV wordsL) z (applyP las P) las fu off (!off) (wD P) (wS P))) (.bool true) (endOf (cdEndY (kSt (b0St U g2) P z las fu off) gW (gV wordsL) z (applyP las P) las fu off (!off) (wD P) (wS P))) :=
  alive_calls (by kernel_rfl) (by kernel_rfl) (by
   have : (endOf (cdEndY (kSt (b0St U g2) P z las fu off) gW (gV wordsL) z (applyP las P) las fu off (!off) (wD P) (wS P))).glob = 1 := by kernel_rfl
   omega)
 generalize endOf (cdEndY (kSt (b0St U g2) P z las fu off) gW (gV wordsL) z (applyP las P) las fu off (!off) (wD P) (wS P)) = SE at h ha
 unfold cdEndY at h
 simp only [Nat.sub_zero, Nat.zero_add, Nat.mul_one, List.take_zero, List.nil_append, List.drop_zero, Int.zero_add, Int.sub_zero, e1, e2, e3, Int.toNat_natCast, beqBytes_self] at h
 have hrun : SR Tryz.prog (sub (codeOf Tryz.prog 3) [1,1,1,1,1]) slCd (endS (kSt (b0St U g2) P z las fu off) (endPins gW (gV wordsL) z (applyP las P) las fu off (!off) (wD P) (wS P))) .ret cdRet SE := SR.of mixed okN_ok callV cdGoodE (Runs.path yxV h ?_)
 ·have hm : Less (endS (kSt (b0St U g2) P z las fu off) (endPins gW (gV wordsL) z (applyP las P) las fu off (!off) (wD P) (wS P))) (kSt (b0St U g2) P z las fu off) := ⟨fun i e hi => by
   have hi' : (pinL (kSt (b0St U g2) P z las fu off).heap (endPins gW (gV wordsL) z (applyP las P) las fu off (!off) (wD P) (wS P))).get i = some e := hi
   rw [get_pinL _ _ _ pins] at hi'
   exact hi', Nat.le_refl _, rfl⟩
  exact ⟨SE, SB.pre (Moves.less hm rfl (fun _ _ h => h)) (SB.of hrun)⟩
 ·rw [holds_of (p := CallsTo _ _ _ _ _)]
  ·repeat rw [same_of]
   ·simp only [ones_bytes I.bytes, isInt_of I.bytes, tn, rp, Bool.and_eq_true, Bool.not_eq_true', Bool.not_not, Bool.not_true, Bool.not_false, decide_eq_true_eq, decide_eq_false_iff_not, true_and, and_true, List.length_set, List.length_cons, List.length_nil, hll, hl]
    omega
   all_goals rfl
  ·exact ha
def piB : Nat → Nat := fun j => if j = 100003 then 100012 else if j = 100004 then 100011 else if j = 100005 then 100004 else if j = 100006 then 100006 else if j = 100008 then 100014 else if j = 100009 then 100013 else j
theorem piB_id {j : Nat} (hj : j < 100003 ∨ 200000 ≤ j) : piB j = j := by
 unfold piB
 rw [if_neg (by omega), if_neg (by omega), if_neg (by omega), if_neg (by omega), if_neg (by omega), if_neg (by omega)]
theorem piB_inj : ∀ j, j ∈ [100003, 100004, 100005, 100006, 100008, 100009] → ∀ k, k ∈ [100003, 100004, 100005, 100006, 100008, 100009] → piB j = piB k → j = k := by decide
theorem cd_main (hU : UOk U g2) {ta : Option Addr} {lt ct : Nat} {ts : List Value} (T : TurnsIn (b0St U g2) ta lt ts) (hta : (ta = none ∧ lt = 0 ∧ ct = 0) ∨ ta = some ⟨2, 0, none⟩) {nn : Int} (h1 : 4096 ≤ nn) (h2 : nn ≤ 1048576) :
 ∃ S', SR Tryz.prog (codeOf Tryz.prog 3) (startX Tryz.f3 [.int .i64 nn, .slice ta lt ct]) (b0St U g2) .ret cdRet S' := by
 have hB := b0_low hU
 have hBn : (b0St U g2).next = 100003 := rfl
 obtain ⟨z, hz⟩ : ∃ z : Nat, (z : Int) = 4096 + nn % 12000 := ⟨(4096 + nn % 12000).toNat, by omega⟩
 have hzb : z < 20000 ∧ 4096 ≤ z := by omega
 have I0 : DInv 0 [] z (List.replicate z (.int .u8 0)) (-1) := ⟨Nat.zero_le _, by omega, hzb.1, by omega, (fun p hp => by cases hp), List.length_replicate, rep_bytes z, by omega, by omega⟩
 obtain ⟨P', las', fu', off', I', hL⟩ := cd_rounds (ct := ct) (off := false) hB hBn T 40 I0 (by omega)
 obtain ⟨SE, hE⟩ := cd_end (off := off') hU I'
 refine ⟨SE, ?_⟩
 rw [cdCode]
 have h := cdIn U gW (gV wordsL) g2 nn (.slice ta lt ct)
 have e1 : IntKind.wrap .i64 (4096 + Int.tmod nn (OfNat.ofNat 12000)) = (z : Int) := by
  rw [show Int.tmod nn (OfNat.ofNat 12000) = nn % 12000 from Int.tmod_eq_emod_of_nonneg (by omega), ← hz]
  exact wrap64 (by omega) (by omega)
 have e2 : IntKind.wrap .i64 (z : Int) = (z : Int) := wrap64 (by omega) (by omega)
 simp only [e1, e2, Int.toNat_natCast, zerosL_rep] at h
 have hI : SB Tryz.prog (b0St U g2) (sub (codeOf Tryz.prog 3) [1,1,1,1,0,0]) (slZ 91 [(1, .slice ta lt ct), (5, .pointer (some ⟨100003, 0, none⟩)), (7, .pointer (some ⟨100008, 0, none⟩))]) (kSt (b0St U g2) [] z (List.replicate z (.int .u8 0)) (-1) false) .normal (slLp ta lt ct 0) (kSt (b0St U g2) [] z (List.replicate z (.int .u8 0)) (-1) false) :=
  SB.of (SR.of mixed okN_ok callZ cdGoodI (Runs.path yxZ (cdI _ ta lt ct) rfl))
 have hs : ∀ i l c, RenV piB (.slice (some ⟨i, 0, none⟩) l c) (.slice (some ⟨piB i, 0, none⟩) l c) := fun i l c => .slice i 0 l c
 have hpt : ∀ i, RenV piB (.pointer (some ⟨i, 0, none⟩)) (.pointer (some ⟨piB i, 0, none⟩)) := fun i => .ptr i 0
 refine SR.partsB mixed okN_ok callZ (by decide) cdGoodP (Runs.path yxZ h ?_) (Moves.named (π := piB) (b := slZ 91 [(1, .slice ta lt ct), (5, .pointer (some ⟨100003, 0, none⟩)), (7, .pointer (some ⟨100008, 0, none⟩))]) (k_named hB hBn (fun j hj => piB_id (.inl hj)) rfl (fun j hj => ?_) (fun j e hj => ?_) (fun j k e f hj hk hjk => ?_) (fun j hj => ?_)) rfl (fun j v hv => ?_)) (SB.seq (SB.seq hI (SB.block_exit (SB.loop hL))) hE)
 ·repeat rw [same_of]
  ·simp only [ones_bytes (rep_bytes z), tn, rp, Bool.and_eq_true, Bool.not_eq_true', Bool.not_not, Bool.not_true, Bool.not_false, decide_eq_true_eq, decide_eq_false_iff_not, true_and, and_true]
   omega
  all_goals rfl
 ·refine Eq.trans (b := (putL (putL (seedU U) [(0, gW), (1, gV wordsL), (2, g2)]) [(100004, Ent.row (List.replicate z (.int .u8 0)) 1 false), (100006, Ent.row (List.replicate z (.int .u8 0)) 1 false), (100011, .row [.slice (some ⟨100004, 0, none⟩) z z, .slice (some ⟨100006, 0, none⟩) z z, .slice none 0 0, .int .i64 (-1), .bool false] 0 false), (100012, .row [.pointer (some ⟨100011, 0, none⟩)] 0 false), (100013, Ent.row (List.replicate z (.int .u8 0)) 1 false), (100014, .row [.slice (some ⟨100013, 0, none⟩) z z, .slice none 0 0, .bool true, .int .i64 (-1)] 0 false)]).get j) (by kernel_rfl) ?_
  rw [get_putL_of _ _ _ (fun y hy => ?_)]
  ·rfl
  ·simp only [List.mem_cons, List.not_mem_nil, or_false, Prod.mk.injEq] at hy
   omega
 ·simp only [kRows, kMain, kArr, kPend, tRows, List.map_nil, List.append_nil, List.mem_cons, List.not_mem_nil, or_false, Prod.mk.injEq] at hj
  have e4 := hs 100005 z z
  have e5 := hs 100006 z z
  have e9 := hs 100009 z z
  rcases hj with ⟨rfl, rfl⟩ | ⟨rfl, rfl⟩ | ⟨rfl, rfl⟩ | ⟨rfl, rfl⟩ | ⟨rfl, rfl⟩ | ⟨rfl, rfl⟩
  ·exact ⟨.row [.pointer (some ⟨100011, 0, none⟩)] 0 false, by kernel_rfl, .row (.cons (hpt 100004) .nil), by decide, by decide⟩
  ·exact ⟨.row [.slice (some ⟨100004, 0, none⟩) z z, .slice (some ⟨100006, 0, none⟩) z z, .slice none 0 0, .int .i64 (-1), .bool false] 0 false, by kernel_rfl, .row (.cons e4 (.cons e5 (.cons (.plain1 rfl) (.cons (.int _ _) (.cons (.bool _) .nil))))), by decide, by decide⟩
  ·exact ⟨.row (List.replicate z (.int .u8 0)) 1 false, by kernel_rfl, bytes_ren (rep_bytes z) _, by decide, by decide⟩
  ·exact ⟨.row (List.replicate z (.int .u8 0)) 1 false, by kernel_rfl, bytes_ren (rep_bytes z) _, by decide, by decide⟩
  ·exact ⟨.row [.slice (some ⟨100013, 0, none⟩) z z, .slice none 0 0, .bool true, .int .i64 (-1)] 0 false, by kernel_rfl, .row (.cons e9 (.cons (.plain1 rfl) (.cons (.bool _) (.cons (.int _ _) .nil)))), by decide, by decide⟩
  ·exact ⟨.row (List.replicate z (.int .u8 0)) 1 false, by kernel_rfl, bytes_ren (rep_bytes z) _, by decide, by decide⟩
 ·have key : ∀ {j : Nat} {e : Ent}, (j, e) ∈ kRows [] z (List.replicate z (.int .u8 0)) (-1) false → j ∈ [100003, 100004, 100005, 100006, 100008, 100009] := fun {j e} h => by
   simp only [kRows, kMain, kArr, kPend, tRows, List.map_nil, List.append_nil, List.mem_cons, List.not_mem_nil, or_false, Prod.mk.injEq] at h
   simp only [List.mem_cons, List.not_mem_nil, or_false]
   omega
  exact piB_inj j (key hj) k (key hk) hjk
 ·rw [piB_id (.inr hj)]
  show 100015 ≤ j
  omega
 ·have hm := slZ_of hv
  simp only [List.mem_cons, List.not_mem_nil, or_false, Prod.mk.injEq] at hm
  rcases hm with ⟨rfl, rfl⟩ | ⟨rfl, rfl⟩ | ⟨rfl, rfl⟩
  ·refine ⟨_, rfl, ?_⟩
   rcases hta with ⟨rfl, rfl, rfl⟩ | rfl
   ·exact .plain1 rfl
   ·exact hs 2 lt ct
  ·exact ⟨.pointer (some ⟨100012, 0, none⟩), rfl, hpt 100003⟩
  ·exact ⟨.pointer (some ⟨100014, 0, none⟩), rfl, hpt 100008⟩
theorem cd_all (hU : UOk U g2) {ta : Option Addr} {lt ct : Nat} {ts : List Value} (T : TurnsIn (b0St U g2) ta lt ts) (hta : (ta = none ∧ lt = 0 ∧ ct = 0) ∨ ta = some ⟨2, 0, none⟩) (nn : Int) :
 ∃ S', CallsTo 3 [.int .i64 nn, .slice ta lt ct] (b0St U g2) (.bool true) S' := by
 have fin : ∀ {S' : St}, SR Tryz.prog (codeOf Tryz.prog 3) (startX Tryz.f3 [.int .i64 nn, .slice ta lt ct]) (b0St U g2) .ret cdRet S' → CallsTo 3 [.int .i64 nn, .slice ta lt ct] (b0St U g2) (.bool true) S' :=
  fun h α w args' hr ha => SR.calls Tryz.func3 cdBody h (.inr rfl) (cdRet_res _) hr ha
 by_cases h1 : 4096 ≤ nn
 ·by_cases h2 : nn ≤ 1048576
  ·obtain ⟨S', h⟩ := cd_main (ct := ct) hU T hta h1 h2
   exact ⟨S', fin h⟩
  ·have h := cdHigh U gW (gV wordsL) g2 nn (.slice ta lt ct)
   unfold cdHighY at h
   have f1 : decide (4096 ≤ nn) = true := decide_eq_true h1
   have f2 : decide (nn ≤ 1048576) = false := decide_eq_false h2
   have f3 : decide (nn < 4096) = false := decide_eq_false (by omega)
   have f4 : decide (1048576 < nn) = true := decide_eq_true (by omega)
   have hrun : SR Tryz.prog (codeOf Tryz.prog 3) (startX Tryz.f3 [.int .i64 nn, .slice ta lt ct]) (b0St U g2) .ret cdRet _ := SR.of mixed okN_ok callV cdGood (Runs.path yxV h (by
    simp only [f1, f2, f3, f4]
    rw [holds_of (p := CallsTo _ _ _ _ _)]
    ·rfl
    ·exact alive_calls (by kernel_rfl) (by kernel_rfl) (Nat.le_refl _)))
   exact ⟨_, fin hrun⟩
 ·have h := cdLow U gW (gV wordsL) g2 nn (.slice ta lt ct)
  unfold cdLowY at h
  have f1 : decide (4096 ≤ nn) = false := decide_eq_false h1
  have f3 : decide (nn < 4096) = true := decide_eq_true (by omega)
  have hrun : SR Tryz.prog (codeOf Tryz.prog 3) (startX Tryz.f3 [.int .i64 nn, .slice ta lt ct]) (b0St U g2) .ret cdRet _ := SR.of mixed okN_ok callV cdGood (Runs.path yxV h (by
   simp only [f1, f3]
   rw [holds_of (p := CallsTo _ _ _ _ _)]
   ·rfl
   ·exact alive_calls (by kernel_rfl) (by kernel_rfl) (Nat.le_refl _)))
  exact ⟨_, fin hrun⟩
end
open Go Go.Proofs Go.ChangeShapes Go.WideShapes Go.ChangeAt Go.RowKit
def strD (l : List (List UInt8)) : DataW Unit := .slice (l.map fun s => .lit (.string s)) []
theorem addr_add (R o i : Nat) : (⟨R, o, none⟩ : Addr).add i = ⟨R, o + i, none⟩ := by
 unfold Addr.add
 split
 ·rename_i h; simp_all
 ·rfl
theorem cell_parts {w : World} {b o : Nat} {v : Value} (h : w.cell? ⟨b, o, none⟩ = some v) : ∃ c e fr, w.heap[b]? = some (.cells c e fr) ∧ c[o]? = some v := by
 unfold World.cell? at h
 split at h
 ·rename_i c e fr hb
  exact ⟨c, e, fr, hb, by simpa using h⟩
 ·cases h
theorem ent_of_cells {α : Place} {W : World} {R o n esz : Nat} (vs : List Value) (hn : vs.length ≤ n) (h0 : 0 < n) (hlast : ∃ u, W.cell? ⟨R, o + (n - 1), none⟩ = some u)
 (h : ∀ i v, vs[i]? = some v → ∃ v', W.cell? ⟨R, o + i, none⟩ = some v' ∧ VRel α v v') : EntRel α W ⟨R, o, n, esz⟩ (.row vs esz true) := by
 obtain ⟨u, hu⟩ := hlast
 obtain ⟨c, e, fr, hb, hc⟩ := cell_parts hu
 have hlt := (Array.getElem?_eq_some_iff.1 hc).1
 refine ⟨rfl, c, e, fr, hb, by show o + n ≤ c.size; omega, hn, (fun h => by cases h), fun i v hi => ?_⟩
 obtain ⟨v', hv, hr⟩ := h i v hi
 obtain ⟨c', e', fr', hb', hc'⟩ := cell_parts hv
 rw [hb] at hb'; cases hb'
 exact ⟨v', hc', hr⟩
theorem strs_of_laid {P : Program} {W : World} {name : String} {l : List (List UInt8)} {g : Nat} {t e : TypeId}
 (hg : P.globalNamed name = some g) (hty : (P.globals[g]?).map (·.type) = some t) (ht : P.underlying t = some (.slice e)) (he : P.underlying e = some .string) (hce : P.cellsOf e = 1) (hl : 0 < l.length)
 (h : laidMet P [(name, strD l)] W) :
 ∃ R o, W.cell? ⟨g, 0, none⟩ = some (.slice (some ⟨R, o, none⟩) l.length l.length) ∧ ∀ i, i < l.length → ∃ s : ByteArray, W.cell? ⟨R, o + i, none⟩ = some (.string s) ∧ l[i]? = some s.data.toList := by
 obtain ⟨ps, ⟨g', t', cs, fuel, p, q, hg', ht', hvar, hd, _, _⟩, _⟩ := h
 obtain rfl := Option.some.inj (hg.symm.trans hg')
 obtain rfl := Option.some.inj (hty.symm.trans ht')
 rcases Deep.open_slice1 ht hce hd with ⟨_, hx⟩ | ⟨a, len, cap, m, n, V, D, Pl, hcs, _, hlc, _, hm, hx, hall⟩
 ·cases hx
 have e0 := congrArg Prod.fst hx
 simp only [strD, DataW.slice.injEq] at e0
 obtain ⟨eE, eR⟩ := e0
 have hlen : len = l.length := by
  have := congrArg List.length eE
  simp at this
  omega
 have hm' : m = cap := by simpa using hm
 have hcap : cap = len := by
  have := congrArg List.length eR
  simp at this
  omega
 have hcell : ∀ i, i < l.length → ∃ s : ByteArray, W.cell? (a.add i) = some (.string s) ∧ l[i]? = some s.data.toList := by
  intro i hi
  obtain ⟨h1, h2⟩ := hall i (by omega)
  obtain ⟨s, hs, hz, _⟩ := DataW.trod_string he h2
  simp only [List.cons.injEq, and_true] at hs
  refine ⟨s, by rw [h1, hs], ?_⟩
  have := congrArg (fun x : List (DataW Unit) => x[i]?) eE
  have hDi : D i = .lit (.string s.data.toList) := congrArg Prod.fst hz
  simp [List.getElem?_range (show i < len by omega), hDi, hi] at this
  rw [List.getElem?_eq_getElem hi, ← this]
 obtain ⟨R, o, sR⟩ := a
 obtain rfl : sR = none := by
  obtain ⟨s, h0, _⟩ := hcell 0 hl
  have e1 : (Addr.add ⟨R, o, sR⟩ 0) = ⟨R, o, sR⟩ := by simp [Addr.add]
  rw [e1] at h0
  exact cell_spot h0
 refine ⟨R, o, ?_, fun i hi => ?_⟩
 ·rw [World.var?_cell hg hvar 0, ← Array.getElem?_toList, hcs]
  rw [show cap = l.length by omega, hlen]
  rfl
 ·obtain ⟨s, h1, h2⟩ := hcell i hi
  exact ⟨s, by rw [← addr_add]; exact h1, h2⟩
theorem open_bytes {H : Type} {enc : TypeId × Value → H} {P : Program} {W : World} {base : Nat} {t e : TypeId} {v : Value} {d : DataW H} {ps : List MemPlace}
 (ht : P.underlying t = some (.slice e)) (he : P.underlying e = some (.int .u8)) (hce : P.cellsOf e = 1) (hval : Value.okWide P W .any base t v) (h : DataW.Trod enc P W 0 (fun _ => true) true t v d ps) :
 (v = .slice none 0 0) ∨ (∃ a, v = .slice (some a) 0 0) ∨
 (∃ R o len cap, ∃ cs : List Value, v = .slice (some ⟨R, o, none⟩) len cap ∧ 0 < cap ∧ len ≤ cap ∧ cs.length = cap ∧ cs.all isByte = true ∧ (∀ i, i < cap → W.cell? ⟨R, o + i, none⟩ = cs[i]?) ∧
  ∃ elems spare, d = .slice elems spare ∧ elems.length = len ∧ elems.length + spare.length = cap) := by
 obtain ⟨a, len, cap, rfl⟩ := okWide_slice ht hval
 obtain ⟨fuel, hd⟩ := h
 rcases Deep.open_slice1 ht hce hd with ⟨hx, _⟩ | ⟨a', len', cap', m, n, V, D, Pl, hcs, _, hlc, _, hm, hx, hall⟩
 ·left; simpa [Value.cells] using hx
 right
 simp only [Value.cells, List.cons.injEq, Value.slice.injEq, and_true] at hcs
 obtain ⟨rfl, rfl, rfl⟩ := hcs
 have hm' : m = cap := by simpa using hm
 by_cases hc0 : cap = 0
 ·left
  subst hc0
  obtain rfl : len = 0 := by omega
  exact ⟨a', rfl⟩
 right
 have hv : ∀ i, i < cap → W.cell? (a'.add i) = some (V i) ∧ isByte (V i) = true := fun i hi => by
  obtain ⟨h1, h2⟩ := hall i (by omega)
  obtain ⟨z, hz, _, hw⟩ := DataW.trod_int he h2
  simp only [List.cons.injEq, and_true] at hz
  refine ⟨h1, ?_⟩
  rw [hz]
  have hx : 0 ≤ z ∧ z ≤ 255 := by simpa [Lit.wf, IntKind.min, IntKind.max, IntKind.signed, IntKind.bits] using hw
  simp [isByte]; omega
 obtain ⟨R, o, sR⟩ := a'
 obtain rfl : sR = none := by
  obtain ⟨h0, _⟩ := hv 0 (by omega)
  have e1 : (Addr.add ⟨R, o, sR⟩ 0) = ⟨R, o, sR⟩ := by simp [Addr.add]
  rw [e1] at h0
  exact cell_spot h0
 refine ⟨R, o, len, cap, (List.range cap).map V, rfl, by omega, hlc, by simp, ?_, fun i hi => ?_, _, _, congrArg Prod.fst hx, by simp, by simp; omega⟩
 ·simp only [List.all_eq_true, List.mem_map, List.mem_range]
  rintro x ⟨i, hi, rfl⟩
  exact (hv i hi).2
 ·obtain ⟨h1, _⟩ := hv i hi
  rw [List.getElem?_map, List.getElem?_range hi]
  rw [← addr_add]; exact h1
section
variable {H : Type} {enc : TypeId × Value → H} {P : Program} {W : World}
theorem open_cells {t e : TypeId} {fuel : Nat} {cs0 : List Value} {x : DataW H × List MemPlace} {q : Value → Bool} (ht : P.underlying t = some (.slice e)) (hce : P.cellsOf e = 1)
 (hq : ∀ n V y, DataW.trod enc P W 0 (fun _ => true) true n e [V] = some y → q V = true) (hd : DataW.trod enc P W 0 (fun _ => true) true fuel t cs0 = some x) :
 (cs0 = [.slice none 0 0]) ∨ (∃ a, cs0 = [.slice (some a) 0 0]) ∨
 (∃ R o len cap, ∃ cs : List Value, cs0 = [.slice (some ⟨R, o, none⟩) len cap] ∧ 0 < cap ∧ len ≤ cap ∧ cs.length = cap ∧ cs.all q = true ∧ (∀ i, i < cap → W.cell? ⟨R, o + i, none⟩ = cs[i]?)) := by
 rcases Deep.open_slice1 ht hce hd with ⟨hx, _⟩ | ⟨a', len, cap, m, n, V, D, Pl, hcs, _, hlc, _, hm, hx, hall⟩
 ·exact .inl hx
 right
 subst hcs
 have hm' : m = cap := by simpa using hm
 by_cases hc0 : cap = 0
 ·left
  subst hc0
  obtain rfl : len = 0 := by omega
  exact ⟨a', rfl⟩
 right
 have hv : ∀ i, i < cap → W.cell? (a'.add i) = some (V i) ∧ q (V i) = true := fun i hi => by
  obtain ⟨h1, h2⟩ := hall i (by omega)
  exact ⟨h1, hq _ _ _ h2⟩
 obtain ⟨R, o, sR⟩ := a'
 obtain rfl : sR = none := by
  obtain ⟨h0, _⟩ := hv 0 (by omega)
  have e1 : (Addr.add ⟨R, o, sR⟩ 0) = ⟨R, o, sR⟩ := by simp [Addr.add]
  rw [e1] at h0
  exact cell_spot h0
 refine ⟨R, o, len, cap, (List.range cap).map V, rfl, by omega, hlc, by simp, ?_, fun i hi => ?_⟩
 ·simp only [List.all_eq_true, List.mem_map, List.mem_range]
  rintro x ⟨i, hi, rfl⟩
  exact (hv i hi).2
 ·obtain ⟨h1, _⟩ := hv i hi
  rw [List.getElem?_map, List.getElem?_range hi]
  rw [← addr_add]; exact h1
structure FieldOk (W : World) (q : Value → Bool) (b : Nat) (v bv : Value) (eb : Option Ent) (loc : Loc) : Prop where
 v_ : (bv = .slice none 0 0 ∧ eb = none) ∨ ∃ l c cs, bv = .slice (some ⟨b, 0, none⟩) l c ∧ eb = some (.row cs 1 true) ∧ l ≤ c ∧ c ≤ cs.length ∧ cs.all q = true
 ent : ∀ e, eb = some e → e.ro = true ∧ ∀ α, EntRel α W loc e
 blk : loc.blk < W.heap.size
 rel : ∀ α : Place, α b = some loc → VRel α bv v
theorem row_any {q : Value → Bool} (hqp : ∀ v, q v = true → plain1 v = true) {α : Place} {R o n : Nat} {cs : List Value} (hb : cs.all q = true) (h0 : 0 < n) (hn : cs.length = n) (h : ∀ i, i < n → W.cell? ⟨R, o + i, none⟩ = cs[i]?) :
 EntRel α W ⟨R, o, n, 1⟩ (.row cs 1 true) := by
 refine ent_of_cells cs (by omega) h0 ⟨_, (h (n - 1) (by omega)).trans (List.getElem?_eq_getElem (by omega))⟩ fun i v hi => ?_
 have hlt := (List.getElem?_eq_some_iff.1 hi).1
 exact ⟨v, (h i (by omega)).trans hi, plain1_rel α v (hqp v (List.all_eq_true.1 hb v (List.mem_of_getElem? hi)))⟩
theorem field_ok {q : Value → Bool} (hqp : ∀ v, q v = true → plain1 v = true) {v : Value} {l1 : Loc} (b : Nat) (hl1 : l1.blk < W.heap.size) (hw1 : ∀ α, EntRel α W l1 (.row [] 1 true))
 (hv : ([v] = [.slice none 0 0]) ∨ (∃ a, [v] = [.slice (some a) 0 0]) ∨
 (∃ R o len cap, ∃ cs : List Value, [v] = [.slice (some ⟨R, o, none⟩) len cap] ∧ 0 < cap ∧ len ≤ cap ∧ cs.length = cap ∧ cs.all q = true ∧ (∀ i, i < cap → W.cell? ⟨R, o + i, none⟩ = cs[i]?))) :
 ∃ (bv : Value) (eb : Option Ent) (loc : Loc), FieldOk W q b v bv eb loc := by
 simp only [List.cons.injEq, and_true] at hv
 rcases hv with rfl | ⟨a, rfl⟩ | ⟨R, o, len, cap, cs, rfl, h0, hlc, hcs, hb, hcell⟩
 ·exact ⟨.slice none 0 0, none, l1, .inl ⟨rfl, rfl⟩, (fun e h => by cases h), hl1, fun α h => .sliceNil⟩
 ·exact ⟨.slice (some ⟨b, 0, none⟩) 0 0, some (.row [] 1 true), l1, .inr ⟨0, 0, [], rfl, rfl, Nat.le_refl _, Nat.le_refl _, rfl⟩, (fun e h => by cases h; exact ⟨rfl, hw1⟩), hl1, fun α h => .sliceEnd _ _⟩
 ·have hR : R < W.heap.size := by
   obtain ⟨c, e, fr, hb', _⟩ := cell_parts ((hcell 0 h0).trans (List.getElem?_eq_getElem (by omega)))
   exact (Array.getElem?_eq_some_iff.1 hb').1
  refine ⟨.slice (some ⟨b, 0, none⟩) len cap, some (.row cs 1 true), ⟨R, o, cap, 1⟩, .inr ⟨len, cap, cs, rfl, rfl, hlc, by omega, hb⟩, (fun e h => by cases h; exact ⟨rfl, fun α => row_any hqp hb h0 hcs hcell⟩), hR, fun α h => ?_⟩
  exact VRel.slice b 0 len cap cap ⟨R, o, cap, 1⟩ h hlc (Nat.le_refl _) (by simp)
end
structure TD where
 kd : Int
 at0 : Int
 n0 : Int
 bv : Value
 kv : Value
 eb : Option Ent
 ek : Option Ent
 lb : Loc
 lk : Loc
 vb : Value
 vk : Value
instance : Inhabited TD := ⟨⟨0, 0, 0, .slice none 0 0, .slice none 0 0, none, none, ⟨0, 0, 0, 0⟩, ⟨0, 0, 0, 0⟩, .slice none 0 0, .slice none 0 0⟩⟩
structure TDok (W : World) (i : Nat) (cs : List Value) (d : TD) : Prop where
 cells : cs = [.int .u8 d.kd, .int .i64 d.at0, .int .i64 d.n0, d.vb, d.vk]
 kd0 : 0 ≤ d.kd
 alo : -(2 : Int) ^ 63 ≤ d.at0
 ahi : d.at0 < 2 ^ 63
 nlo : -(2 : Int) ^ 63 ≤ d.n0
 nhi : d.n0 < 2 ^ 63
 b : FieldOk W isByte (uid (2 * i)) d.vb d.bv d.eb d.lb
 k : FieldOk W isBool (uid (2 * i + 1)) d.vk d.kv d.ek d.lk
def uList (m : Nat) (f : Nat → TD) : List (Nat × Option Ent) := (List.range m).flatMap fun i => [(2 * i, (f i).eb), (2 * i + 1, (f i).ek)]
def uOf (m : Nat) (f : Nat → TD) : PT Ent := putO .leaf (uList m f)
theorem uList_nodup (f : Nat → TD) : ∀ m, ((uList m f).map (·.1)).Nodup
 | 0 => List.nodup_nil
 | m + 1 => by
  have h := uList_nodup f m
  unfold uList at h ⊢
  rw [List.range_succ, List.flatMap_append, List.map_append, List.nodup_append]
  refine ⟨h, ?_, ?_⟩
  ·simp [List.flatMap]
  ·intro a ha b hb hab
   obtain ⟨p, hp, rfl⟩ := List.mem_map.1 ha
   obtain ⟨i, hi, hp⟩ := List.mem_flatMap.1 hp
   have hi := List.mem_range.1 hi
   simp only [List.flatMap_cons, List.flatMap_nil, List.append_nil, List.map_cons, List.map_nil, List.mem_cons, List.not_mem_nil, or_false] at hb hp
   rcases hp with rfl | rfl <;> simp only at hab <;> omega
theorem uOf_get {m : Nat} {f : Nat → TD} {i : Nat} (hi : i < m) : (uOf m f).get (2 * i) = (f i).eb ∧ (uOf m f).get (2 * i + 1) = (f i).ek := by
 have key : ∀ p, p ∈ [(2 * i, (f i).eb), (2 * i + 1, (f i).ek)] → (uOf m f).get p.1 = p.2 := fun p hp =>
  get_putO_mem _ _ _ _ (uList_nodup f m) (List.mem_flatMap.2 ⟨i, List.mem_range.2 hi, hp⟩)
 exact ⟨key (2 * i, (f i).eb) (by simp), key (2 * i + 1, (f i).ek) (by simp)⟩
theorem uOf_inv {m : Nat} {f : Nat → TD} {j : Nat} {e : Ent} (h : (uOf m f).get j = some e) : ∃ i, i < m ∧ ((j = 2 * i ∧ (f i).eb = some e) ∨ (j = 2 * i + 1 ∧ (f i).ek = some e)) := by
 rcases get_putO2 _ _ _ _ h with h1 | ⟨h1, _⟩
 ·obtain ⟨i, hi, hp⟩ := List.mem_flatMap.1 h1
  simp only [List.mem_cons, List.not_mem_nil, or_false, Prod.mk.injEq] at hp
  refine ⟨i, List.mem_range.1 hi, ?_⟩
  rcases hp with ⟨h1, h2⟩ | ⟨h1, h2⟩
  ·exact .inl ⟨h1, h2.symm⟩
  ·exact .inr ⟨h1, h2.symm⟩
 ·simp [PT.get] at h1
theorem isByte_plain {v : Value} (h : isByte v = true) : plain1 v = true := by
 unfold isByte at h
 split at h
 ·rfl
 ·cases h
theorem isBool_plain {v : Value} (h : isBool v = true) : plain1 v = true := by
 unfold isBool at h
 split at h
 ·rfl
 ·cases h
def tCells (m : Nat) (f : Nat → TD) : List Value := (List.range m).flatMap fun i => [.int .u8 (f i).kd, .int .i64 (f i).at0, .int .i64 (f i).n0, (f i).bv, (f i).kv]
theorem tCells_length (f : Nat → TD) : ∀ m, (tCells m f).length = m * 5
 | 0 => rfl
 | m + 1 => by
  have h := tCells_length f m
  unfold tCells at h ⊢
  rw [List.range_succ, List.flatMap_append, List.length_append, h]
  simp; omega
theorem tCells_take (f : Nat → TD) {i : Nat} : ∀ {m}, i < m → List.take 5 (List.drop (i * 5) (tCells m f)) = [.int .u8 (f i).kd, .int .i64 (f i).at0, .int .i64 (f i).n0, (f i).bv, (f i).kv]
 | m + 1, hi => by
  have hl := tCells_length f m
  have e : tCells (m + 1) f = tCells m f ++ [.int .u8 (f m).kd, .int .i64 (f m).at0, .int .i64 (f m).n0, (f m).bv, (f m).kv] := by
   unfold tCells; rw [List.range_succ, List.flatMap_append]; simp
  rw [e]
  by_cases h : i = m
  ·subst h
   rw [← hl, List.drop_left]; rfl
  ·rw [List.drop_append_of_le_length (by omega), List.take_append_of_le_length (by rw [List.length_drop]; omega)]
   exact tCells_take f (by omega)
theorem turnsIn_of {W : World} {m lt : Nat} {f : Nat → TD} {cs : Nat → List Value} {ta : Option Addr} (hm : ∀ i, i < lt → i < 40 → i < m) (hm40 : m ≤ 40) (hta : 0 < lt → ta = some ⟨2, 0, none⟩) (h : ∀ i, i < m → TDok W i (cs i) (f i)) :
 TurnsIn (b0St (uOf m f) (.row (tCells m f) 5 true)) ta lt (tCells m f) ∧ UOk (uOf m f) (.row (tCells m f) 5 true) := by
 have ub : ∀ j, j < 80 → uid j % 1024 = 1021 ∧ uid j < 100003 ∧ 2 < uid j := fun j hj => by unfold uid; omega
 have low : ∀ i, i < m → low1 100003 (f i).bv = true ∧ low1 100003 (f i).kv = true := fun i hi => by
  have := ub (2 * i) (by omega)
  have := ub (2 * i + 1) (by omega)
  refine ⟨?_, ?_⟩
  ·rcases (h i hi).b.v_ with ⟨h1, _⟩ | ⟨l, c, cs, h1, _⟩ <;> rw [h1]
   ·rfl
   ·simp only [low1, decide_eq_true_eq]; omega
  ·rcases (h i hi).k.v_ with ⟨h1, _⟩ | ⟨l, c, cs, h1, _⟩ <;> rw [h1]
   ·rfl
   ·simp only [low1, decide_eq_true_eq]; omega
 refine ⟨⟨fun hl => ⟨hta hl, by kernel_rfl⟩, fun i hi h40 => by rw [tCells_length]; have := hm i hi h40; omega, fun i hi h40 => ?_⟩, ⟨fun j e hj => ?_, ?_⟩⟩
 ·have him := hm i hi h40
  have t := h i him
  obtain ⟨g1, g2⟩ := uOf_get (f := f) him
  obtain ⟨u1, u2, u3⟩ := ub (2 * i) (by omega)
  obtain ⟨w1, w2, w3⟩ := ub (2 * i + 1) (by omega)
  refine ⟨_, _, _, _, _, tCells_take f him, t.kd0, t.alo, t.ahi, t.nlo, t.nhi, ?_, ?_⟩
  ·rcases t.b.v_ with ⟨h1, _⟩ | ⟨l, c, cs, h1, h2, h3, h4, h5⟩
   ·exact .inl h1
   ·exact .inr ⟨_, l, c, cs, h1, ⟨u1, u2, by rw [b0_uid _ u3, g1, h2], h5⟩, h3, h4⟩
  ·rcases t.k.v_ with ⟨h1, _⟩ | ⟨l, c, cs, h1, h2, h3, h4, h5⟩
   ·exact .inl h1
   ·exact .inr ⟨_, l, c, cs, h1, ⟨w1, w2⟩, by rw [b0_uid _ w3, g2, h2], h5, by omega⟩
 ·obtain ⟨i, hi, hc⟩ := uOf_inv hj
  have t := h i hi
  rcases hc with ⟨rfl, he⟩ | ⟨rfl, he⟩
  ·refine ⟨(ub _ (by omega)).2.1, ?_⟩
   rcases t.b.v_ with ⟨_, h2⟩ | ⟨l, c, cs, _, h2, _, _, h5⟩
   ·rw [h2] at he; cases he
   ·rw [h2] at he; cases he
    exact fun π _ => bytes_ren h5 π
  ·refine ⟨(ub _ (by omega)).2.1, ?_⟩
   rcases t.k.v_ with ⟨_, h2⟩ | ⟨l, c, cs, _, h2, _, _, h5⟩
   ·rw [h2] at he; cases he
   ·rw [h2] at he; cases he
    exact fun π _ => .plain (List.all_eq_true.2 fun x hx => isBool_plain (List.all_eq_true.1 h5 x hx))
 ·refine fun π hk => lowE_ren hk ?_
  show (tCells m f).all (low1 100003) = true
  rw [List.all_eq_true]
  intro v hv
  obtain ⟨i, hi, hv⟩ := List.mem_flatMap.1 hv
  obtain ⟨l1, l2⟩ := low i (List.mem_range.1 hi)
  simp only [List.mem_cons, List.not_mem_nil, or_false] at hv
  rcases hv with rfl | rfl | rfl | rfl | rfl
  ·rfl
  ·rfl
  ·rfl
  ·exact l1
  ·exact l2
end Go.Xe
