/- A part of the proof. -/
import Derived.Test.YtkhjbbigangbdaaGreatDoorM42
import Derived.Test.YtkhjbbigangbdaaGreatDoorM43
import Derived.Test.YtkhjbbigangbdaaGreatDoorM44
import Derived.Test.YtkhjbbigangbdaaGreatDoorM45
import Derived.Shelf.SlIter.Collect
import Derived.Test.YtkhjbbigangbdaaGreatDoorChecked
import Derived.StringKeys
set_option linter.all false
namespace Go.Xe
open Go Go.Proofs
theorem wordsL_plain : wordsL.all plain1 = true := by kernel_rfl
theorem entsK_low (k m : Nat) (c : Nat) : ∀ π, Keeps m π → RenE π (.map (entsK k) c false) (.map (entsK k) c false) := fun π hk => .map (fun i e he => by
 have : e ∈ entsK k := List.mem_of_getElem? he
 unfold entsK at this
 obtain ⟨j, _, rfl⟩ := List.mem_map.1 this
 exact ⟨.string _, .bool _⟩)
theorem good_body31 : goodCode body31c = true := by kernel_rfl
theorem round_SR {i i' : Int} {k n k' n' : Nat} (h : (roundK i (entsK k) n).map lookK = some (.normal, slK i', some gW, some (gV wordsL), some (.map (entsK k') n' false), 1, true)) :
 SR Tryz.prog body31c (slK i) (stK (entsK k) n) .normal (slK i') (stK (entsK k') n') := by
 cases hx : roundK i (entsK k) n with
 | none => rw [hx] at h; cases h
 | some r =>
  rw [hx] at h
  obtain ⟨e, a', S'⟩ := r
  simp only [Option.map_some, lookK, Option.some.injEq, Prod.mk.injEq] at h
  obtain ⟨rfl, rfl, h0, h1, h4, hg, hn⟩ := h
  have hrun : Runs Tryz.prog okN xky (kp 29) body31c (slK i) (stK (entsK k) n) .normal (slK i') S' := ⟨100, hx⟩
  refine SR.forget (m := 5) (SR.of mixed okN_ok callKy good_body31 hrun) (Kept.tri (l := [(4, .map (entsK k') n' false)]) (eb := none) (ev := none) wordsL_plain h0 h1 (by simp) (by simp) (by intro e he; cases he) (by intro e he; cases he) (fun p hp => ?_) (by omega) (Nat.le_of_ble_eq_true hn) hg) (Nat.le_of_ble_eq_true rfl) (lowA_ren (m := 5) (by
   unfold slK lowA
   rw [List.all_append]
   rfl))
  simp only [List.mem_cons, List.not_mem_nil, or_false] at hp
  subst hp
  exact ⟨h4, by show 4 < 5; omega, entsK_low k' 5 n'⟩
def sl0 : XAct := List.replicate 37 none
def slP : XAct := [none, some (.map (some 4))] ++ List.replicate 35 none
def slE : XAct := [none, some (.map (some 4)), none, none, none, none, none, some (.int .i64 12), some (.bool false)] ++ List.replicate 28 none
theorem pre_look0 : xcode Tryz.prog okN xky (kp 29) 100 (sub (codeOf Tryz.prog 29) [0]) (startX Tryz.f29 []) (tri gW (gV wordsL) none none [] 4) = some (.normal, sl0, tri gW (gV wordsL) none none [] 4) := by kernel_rfl
theorem pre_look : (xcode Tryz.prog okN xky (kp 29) 100 (sub (codeOf Tryz.prog 29) [1, 0]) sl0 (tri gW (gV wordsL) none none [] 4)).map lookK = some (.normal, slP, some gW, some (gV wordsL), some (.map (entsK 0) 0 false), 1, true) := by kernel_rfl
theorem in_look : (xcode Tryz.prog okN xky (kp 29) 100 (sub (codeOf Tryz.prog 29) [1, 1, 0, 0]) slP (stK (entsK 0) 0)).map lookK = some (.normal, slK 0, some gW, some (gV wordsL), some (.map (entsK 0) 0 false), 1, true) := by kernel_rfl
theorem last_look : (roundK 12 (entsK 12) 12).map lookK = some (.exit 0, slE, some gW, some (gV wordsL), some (.map (entsK 12) 12 false), 1, true) := by kernel_rfl
theorem post_look : (match xcode Tryz.prog okN xky (kp 29) 100 (sub (codeOf Tryz.prog 29) [1, 1, 1]) slE (stK (entsK 12) 12) with | some (.ret, a', S') => xres Tryz.prog Tryz.f29 a' S' | _ => none) = some (.bool true) := by kernel_rfl
theorem look_SR {c : Code} {a a' : XAct} {S : St} {e : XE} {k n : Nat} (hg : goodCode c = true) (hS : S.next ≤ 5) (ha : lowA 5 a' = true)
 (h : (xcode Tryz.prog okN xky (kp 29) 100 c a S).map lookK = some (e, a', some gW, some (gV wordsL), some (.map (entsK k) n false), 1, true)) : SR Tryz.prog c a S e a' (stK (entsK k) n) := by
 cases hx : xcode Tryz.prog okN xky (kp 29) 100 c a S with
 | none => rw [hx] at h; cases h
 | some r =>
  rw [hx] at h
  obtain ⟨e', b, S'⟩ := r
  simp only [Option.map_some, lookK, Option.some.injEq, Prod.mk.injEq] at h
  obtain ⟨rfl, rfl, h0, h1, h4, hgl, hn⟩ := h
  refine SR.forget (m := 5) (SR.of mixed okN_ok callKy hg ⟨100, hx⟩) (Kept.tri (l := [(4, .map (entsK k) n false)]) (eb := none) (ev := none) wordsL_plain h0 h1 (by simp) (by simp) (by intro e he; cases he) (by intro e he; cases he) (fun p hp => ?_) (by omega) (Nat.le_of_ble_eq_true hn) hgl) hS (lowA_ren ha)
  simp only [List.mem_cons, List.not_mem_nil, or_false] at hp
  subst hp
  exact ⟨h4, by show 4 < 5; omega, entsK_low k 5 n⟩
theorem code31 : codeOf Tryz.prog 29 = .seq (sub (codeOf Tryz.prog 29) [0]) (.seq (sub (codeOf Tryz.prog 29) [1, 0]) (.seq (.seq (sub (codeOf Tryz.prog 29) [1, 1, 0, 0]) (.block 0 (.loop body31c))) (sub (codeOf Tryz.prog 29) [1, 1, 1]))) := by kernel_rfl
theorem body31 : Tryz.f29.body = some (codeOf Tryz.prog 29) := by kernel_rfl
theorem good31a : goodCode (sub (codeOf Tryz.prog 29) [1, 0]) = true := by kernel_rfl
theorem good310 : goodCode (sub (codeOf Tryz.prog 29) [0]) = true := by kernel_rfl
theorem good31b : goodCode (sub (codeOf Tryz.prog 29) [1, 1, 0, 0]) = true := by kernel_rfl
theorem good31c : goodCode (sub (codeOf Tryz.prog 29) [1, 1, 1]) = true := by kernel_rfl
theorem rounds : SL Tryz.prog 13 body31c (slK 0) (stK (entsK 0) 0) (.exit 0) slE (stK (entsK 12) 12) :=
 SL.step (round_SR keyRound0) (SL.step (round_SR keyRound1) (SL.step (round_SR keyRound2) (SL.step (round_SR keyRound3) (SL.step (round_SR keyRound4) (SL.step (round_SR keyRound5) (SL.step (round_SR keyRound6) (SL.step (round_SR keyRound7)
  (SL.step (round_SR keyRound8) (SL.step (round_SR keyRound9) (SL.step (round_SR keyRound10) (SL.step (round_SR keyRound11) (SL.exit (look_SR good_body31 (Nat.le_refl 5) (by kernel_rfl) last_look)))))))))))))
theorem keys_true : ∃ a' S', SR Tryz.prog (codeOf Tryz.prog 29) (startX Tryz.f29 []) (tri gW (gV wordsL) none none [] 4) .ret a' S' ∧ xres Tryz.prog Tryz.f29 a' S' = some (.bool true) := by
 have hp := post_look
 cases hx : xcode Tryz.prog okN xky (kp 29) 100 (sub (codeOf Tryz.prog 29) [1, 1, 1]) slE (stK (entsK 12) 12) with
 | none => rw [hx] at hp; cases hp
 | some r =>
  rw [hx] at hp
  obtain ⟨e', b, S'⟩ := r
  cases e' with
  | normal => cases hp
  | exit i => cases hp
  | ret =>
   refine ⟨b, S', ?_, hp⟩
   have r00 : SR Tryz.prog (sub (codeOf Tryz.prog 29) [0]) (startX Tryz.f29 []) (tri gW (gV wordsL) none none [] 4) .normal sl0 (tri gW (gV wordsL) none none [] 4) := SR.of mixed okN_ok callKy good310 ⟨100, pre_look0⟩
   have r0 : SR Tryz.prog (sub (codeOf Tryz.prog 29) [1, 0]) sl0 (tri gW (gV wordsL) none none [] 4) .normal slP (stK (entsK 0) 0) := look_SR good31a (Nat.le_of_ble_eq_true rfl) (by kernel_rfl) pre_look
   have r1 : SR Tryz.prog (sub (codeOf Tryz.prog 29) [1, 1, 0, 0]) slP (stK (entsK 0) 0) .normal (slK 0) (stK (entsK 0) 0) := look_SR good31b (Nat.le_refl 5) (by kernel_rfl) in_look
   have r3 : SR Tryz.prog (sub (codeOf Tryz.prog 29) [1, 1, 1]) slE (stK (entsK 12) 12) .ret b S' := SR.of mixed okN_ok callKy good31c ⟨100, hx⟩
   rw [code31]
   exact SR.seq r00 (SR.seq r0 (SR.seq (SR.seq r1 (SR.block_exit (SR.loop rounds))) r3))
def AppOk : Prop := ∀ args S v S', appF args S = some (true, (v, S')) → ∀ (α : Place) (w : World) (args' : Array Value), Rel α S w → LRel α args args'.toList →
 Calls Tryz.prog 87 args' w fun e w' => ∃ β v', e = .returned v' ∧ Next α S w β S' w' ∧ VRel β v v'
theorem keysF_sound (args : List Value) (S : St) (v : Value) (S' : St) (hx : keysF args S = some (true, (v, S'))) (α : Place) (w : World) (args' : Array Value) (h : Rel α S w) (ha : LRel α args args'.toList) :
 Calls Tryz.prog 29 args' w fun e w' => ∃ β v', e = .returned v' ∧ Next α S w β S' w' ∧ VRel β v v' := by
 unfold keysF at hx
 split at hx
 ·rename_i ws h0 h1
  simp only [Y.req_is, Y.pure_is, decide_eq_true_eq, Prod.mk.injEq] at hx
  obtain ⟨hg, hs, rfl, rfl⟩ := hx
  have := sameL_eq hs
  subst this
  obtain ⟨a', T, k1, k2⟩ := keys_true
  exact words_call Tryz.func29 body31 wordsL_plain k1 k2 h ha h0 h1 hg
 ·cases hx
theorem okOrcL (hA : AppOk) : OrcSound Tryz.prog orcL := fun f F h => by
 unfold orcL at h
 split at h
 ·cases h; rename_i hf; subst hf; exact keysF_sound
 ·split at h
  ·cases h; rename_i hf; subst hf; exact hA
  ·exact okOrc3 f F h
theorem aliveF_sound (hA : AppOk) (K : Nat) (args : List Value) (S : St) (v : Value) (S' : St) (hx : aliveF K args S = some (true, (v, S'))) (α : Place) (w : World) (args' : Array Value) (h : Rel α S w) (ha : LRel α args args'.toList) :
 Calls Tryz.prog 8 args' w fun e w' => ∃ β v', e = .returned v' ∧ Next α S w β S' w' ∧ VRel β v v' := by
 unfold aliveF at hx
 split at hx
 ·rename_i ws h0 h1
  simp only [Y.req_is, Y.pure_is, decide_eq_true_eq, Prod.mk.injEq] at hx
  obtain ⟨hg, hs, rfl, rfl⟩ := hx
  have := sameL_eq hs
  subst this
  obtain ⟨a', T, k1, k2⟩ := alive_true (okOrcL hA) hs wordsL_plain
  exact words_call Tryz.func8 body13 wordsL_plain k1 k2 h ha h0 h1 hg
 ·cases hx
open Go Go.Proofs Go.RowKit Go.Maps Go.Sort Go.Shelf
def iterRen : Ren := { f := fun n => match n with | 10 => 71 | 11 => 87 | _ => 0, t := fun n => match n with | 0 => 0 | 3 => 77 | 4 => 4 | 23 => 70 | 24 => 60 | 26 => 9 | 28 => 104 | 33 => 130 | _ => 0, g := fun _ => 0 }
theorem lays10 : SlLaysZ.n10 Tryz.prog iterRen where
 mixed := by kernel_rfl
 f10 := ⟨Tryz.f71.name, by decide, by kernel_rfl⟩
 t0 := by kernel_rfl
 a0 := fun w => by kernel_rfl
 z0 := fun w => by kernel_rfl
 v0 := fun w => by kernel_rfl
 t4 := by kernel_rfl
 a4 := fun w => by kernel_rfl
 z4 := fun w => by kernel_rfl
 v4 := fun w => by kernel_rfl
 t23 := by kernel_rfl
 a23 := fun w => by kernel_rfl
 z23 := fun w => by kernel_rfl
 v23 := fun w => by kernel_rfl
 t26 := by kernel_rfl
 a26 := fun w => by kernel_rfl
 z26 := fun w => by kernel_rfl
 v26 := fun w => by kernel_rfl
 t33 := by kernel_rfl
 a33 := fun w => by kernel_rfl
 z33 := fun w => by kernel_rfl
 v33 := fun w => by kernel_rfl
theorem lays11 : SlLaysZ.n11 Tryz.prog iterRen where
 mixed := by kernel_rfl
 f11 := ⟨Tryz.f87.name, by decide, by kernel_rfl⟩
 t0 := by kernel_rfl
 a0 := fun w => by kernel_rfl
 z0 := fun w => by kernel_rfl
 v0 := fun w => by kernel_rfl
 t24 := by kernel_rfl
 a24 := fun w => by kernel_rfl
 z24 := fun w => by kernel_rfl
 v24 := fun w => by kernel_rfl
 t26 := by kernel_rfl
 a26 := fun w => by kernel_rfl
 z26 := fun w => by kernel_rfl
 v26 := fun w => by kernel_rfl
 t28 := by kernel_rfl
 a28 := fun w => by kernel_rfl
 z28 := fun w => by kernel_rfl
 v28 := fun w => by kernel_rfl
 i26 := by kernel_rfl
set_option maxRecDepth 100000 in
set_option maxHeartbeats 1000000 in
theorem iter_in {P : Program} {ρ : Ren} (L : SlLaysZ.n10 P ρ) {H : Type} (F : Fence) (n : Nat) (h10 : F.fn (ρ.f 10)) (hro : F.round = none) (hn : 1 ≤ n) (l Bm o b nn : Nat) (D0 : DataW H) {R : Value → Option (DataW H × List MemPlace)} (J : List (List UInt8) → World → Prop)
 (hY : ∀ pre x W, J pre W → pre.length < Maps.size D0 → YieldAt F (n - 1) P l #[encStr x] W fun e W' => e = .returned (.bool true) ∧ J (pre ++ [x]) W' ∧ KeepsWalks W W')
 (W : World) (hJ : AbidesFrom W.heap.size J) (hm : W.cell? ⟨Bm, o, none⟩ = some (.map (some b))) (hown : W.ownsMap P (ρ.t 26) R b nn D0) (h0 : J [] W) :
 CallsIn F n P (ρ.f 10) #[.func (.yield l) #[] #[], .pointer (some ⟨Bm, o, none⟩)] W fun e W' => (∃ v, e = .returned v) ∧ ∃ ss : List (List UInt8), ss.Perm (strKeys D0) ∧ J ss W' := by
 have mixed := L.mixed; have t0 := L.t0; have a0 := L.a0; have z0 := L.z0; have v0 := L.v0; have t4 := L.t4; have a4 := L.a4; have z4 := L.z4; have v4 := L.v4; have t23 := L.t23; have a23 := L.a23; have z23 := L.z23; have v23 := L.v23; have t26 := L.t26; have a26 := L.a26; have z26 := L.z26; have v26 := L.v26; have t33 := L.t33; have a33 := L.a33; have z33 := L.z33; have v33 := L.v33
 have u0 := run_underlying L.t0; have u4 := run_underlying L.t4; have u23 := run_underlying L.t23; have u26 := run_underlying L.t26; have u33 := run_underlying L.t33
 obtain ⟨_, _, FG⟩ := L.f10
 refine callsIn_of_wp FG rfl h10 ?_ hro
 simp only [SlBodyZ.n10_ntmps ρ, List.size_toArray, List.length_cons, List.length_nil, Nat.reduceAdd, Nat.reduceSub, Array.replicate_succ, Array.replicate_zero, List.push_toArray, List.append_toArray, List.nil_append, List.cons_append]
 gi_wp2_with (first
  | (gi_at_range; refine wpListIn_range_own _ rfl _ (ρ.t 23) rfl (ρ.t 26) (ρ.t 3) (string_keyed L.t26) L.t23 _ b nn _ rfl hown ?_; intro w0 hrg0 hg0 hs0)
  | gi_in)
 go_frame
 gi_loopw [3] (fun _ wr => ∃ (left : Lit → Bool) (cnt : Nat) (ss : List (List UInt8)), wr.ranges P (ρ.t 26) R b W.heap.size nn D0 left cnt ∧ ss.length + cnt ≤ Maps.size D0 ∧ Collected D0 left ss ∧ J ss wr)
  (fun _ wr => wr.rangeLeft b W.heap.size)
 case atStart => exact ⟨_, _, [], hrg0, by simp, Collected.start D0, hJ [] W w0 none h0 hg0 (fun r e => by cases e)⟩
 case round =>
  obtain ⟨left, cnt, ss, hrg, hcs, hC, hJs⟩ := hrel
  gi_wp2_with (first
   | (gi_at_next; refine wpListIn_next_ranges _ rfl _ rfl (ρ.t 26) (string_keyed L.t26) R encStr id (fun key kl hk => by obtain ⟨x, hx, _⟩ := Maps.keyOf_str L.t26 hk; exact ⟨x, hx⟩) (fun v _ _ => ⟨v, rfl⟩) b W.heap.size nn _ _ _ rfl hrg ?_ ?_)
   | gi_in)
  ·intro hc0 hl0
   gi_wp2
   go_end0
   exact ⟨⟨_, rfl⟩, ss, hC.perm hown (string_keyed L.t26) L.t26 hl0, hJs⟩
  ·intro x c kl yd yp w2 cnt2 hkey hlk hv hat hrg2 hlt hg2 hs2 hen
   obtain ⟨x', ex, rfl, _⟩ := Maps.keyOf_str L.t26 hkey
   obtain rfl : x = x' := encStr_inj ex
   have hJ2 : J ss w2 := hJ ss wr w2 (some W.heap.size) hJs hg2 (fun r e => by cases e; exact ⟨Nat.le_refl _, hrg.iter_walk⟩)
   obtain ⟨fn, tmps, assign, body, hy, hR⟩ := hY ss x w2 hJ2 (by omega)
   clear hs2
   gi_wp2
   refine hR.mono ?_
   rintro e W3 ⟨rfl, hJ3, hk3⟩
   gi_wp2
   have hrg3 := hrg2.of_walks hk3
   go_roundw
   case rel => exact ⟨_, cnt2, ss ++ [x], hrg3, by simp; omega, hC.step hlk hat, hJ3⟩
   case measure => rw [hrg3.left_eq, hrg.left_eq]; exact hlt
theorem append_keys {H : Type} (Bm o b nn : Nat) (D0 : DataW H) {R : Value → Option (DataW H × List MemPlace)} (w : World) (hBm : Bm < w.heap.size) (hN : Maps.size D0 * 16 ≤ 140737488355328)
 (hm : w.cell? ⟨Bm, o, none⟩ = some (.map (some b))) (hown : w.ownsMap Tryz.prog 9 R b nn D0) :
 Calls Tryz.prog 87 #[.slice none 0 0, .func (.func 71) #[] #[.pointer (some ⟨Bm, o, none⟩)]] w fun e w' => ∃ (v : Value) (ss : List (List UInt8)), e = .returned v ∧ ss.Perm (strKeys D0) ∧ w'.ownsRow w.heap.size 9 1 v ss.length (ss.map encStr) ∧ Below w.heap.size w w' := by
 refine (callsIn_wide (n := 6)).1 ?_
 have hseq : SeqGives Fence.wide (6 - 1) Tryz.prog 71 #[.pointer (some ⟨Bm, o, none⟩)] encStr (fun ss => ss.Perm (strKeys D0)) (Maps.size D0) w := fun l J W hW hJ hY h0 => by
  have hown' : W.ownsMap Tryz.prog 9 R b nn D0 := by
   have hbl := hown.lt
   obtain ⟨es, clock, hb, Ft, hs, hD⟩ := hown
   exact ⟨es, clock, (hW.block b hbl).trans hb, Ft, hs, hD⟩
  exact iter_in lays10 Fence.wide 5 trivial rfl (by omega) l Bm o b nn D0 J hY W hJ ((hW.cell (p := ⟨Bm, o, none⟩) hBm).trans hm) hown' h0
 refine (AnyZ.appendSeq_in lays11 Fence.wide 6 trivial rfl (by omega) 71 _ trivial (lays10.f10.enters rfl) _ (Maps.size D0) (by unfold maxLen; omega) hN w hseq).mono ?_
 rintro e w' ⟨v, ss, rfl, hS, hrow, _, hb⟩
 exact ⟨v, ss, rfl, hS, hrow, hb⟩
open Go Go.Proofs Go.RowKit Go.Maps Go.Sort
theorem Next.newAt {α : Place} {S : St} {w w' : World} (h : Rel α S w) (e : Ent) (hero : e.ro = false) (l0 : Loc) (hl0 : w.heap.size ≤ l0.blk) (hl1 : l0.blk < w'.heap.size) (hw : Below w.heap.size w w')
 (he : EntRel (α.upd S.next l0) w' l0 e) : Next α S w (α.upd S.next l0) (S.new e) w' := by
 have hx := h.ext l0
 have hb : ∀ b, b < w.heap.size → w'.heap[b]? = w.heap[b]? := hw.block
 have hget : ∀ i x, (S.new e).heap.get i = some x → (i = S.next ∧ x = e) ∨ (i ≠ S.next ∧ S.heap.get i = some x) := by
  intro i x hi
  simp only [St.new] at hi
  rw [PT.get_set] at hi
  by_cases hn : i = S.next
  ·rw [if_pos hn] at hi; cases hi; exact .inl ⟨hn, rfl⟩
  ·rw [if_neg hn] at hi; exact .inr ⟨hn, hi⟩
 refine ⟨hx, ⟨?_, ?_, ?_, ?_, ?_, ?_⟩, ⟨hw.size, fun b hb' _ => hb b hb', hw.os, hw.tape, hw.output⟩, ?_, by simp [St.new], rfl, fun i hi => Place.upd_ne _ _ (by omega), ?_, ?_⟩
 ·intro i x hi
  rcases hget i x hi with ⟨rfl, rfl⟩ | ⟨hn, hi1⟩
  ·exact ⟨_, Place.upd_same _ _ _, he⟩
  ·obtain ⟨l, hl, hr⟩ := h.ent i x hi1
   refine ⟨l, by rw [Place.upd_ne _ _ hn]; exact hl, ?_⟩
   exact (hr.mono hx).of_block (hb _ (h.size i l hl))
 ·intro i j x y l m hij hi hj hro hl hm
  rcases hget i x hi with ⟨rfl, rfl⟩ | ⟨hn, hi1⟩
  ·rcases hget j y hj with ⟨rfl, rfl⟩ | ⟨hn', hj1⟩
   ·exact absurd rfl hij
   ·rw [Place.upd_same] at hl; rw [Place.upd_ne _ _ hn'] at hm; cases hl
    have := h.size j m hm
    omega
  ·rcases hget j y hj with ⟨rfl, rfl⟩ | ⟨hn', hj1⟩
   ·rw [Place.upd_same] at hm; rw [Place.upd_ne _ _ hn] at hl; cases hm
    have := h.size i l hl
    omega
   ·rw [Place.upd_ne _ _ hn] at hl; rw [Place.upd_ne _ _ hn'] at hm
    exact h.apart i j x y l m hij hi1 hj1 hro hl hm
 ·intro i l hl
  by_cases hn : i = S.next
  ·subst hn; simp [St.new]
  ·rw [Place.upd_ne _ _ hn] at hl; have := h.fresh i l hl; simp only [St.new]; omega
 ·intro i l hl
  by_cases hn : i = S.next
  ·subst hn; rw [Place.upd_same] at hl; cases hl; exact hl1
  ·rw [Place.upd_ne _ _ hn] at hl; have := h.size i l hl; have := hw.size; omega
 ·intro i l hg hl
  have := h.gle
  rw [Place.upd_ne _ _ (by simp only [St.new] at hg; omega)] at hl
  exact h.glob i l hg hl
 ·have := h.gle; simp only [St.new]; omega
 ·intro j f m hj hf hm
  rcases hget j f hj with ⟨rfl, rfl⟩ | ⟨hn, hj1⟩
  ·rw [Place.upd_same] at hm; cases hm; exact .inl hl0
  ·rw [Place.upd_ne _ _ hn] at hm; exact .inr ⟨j, f, m, hj1, hf, hm, rfl⟩
 ·intro i x hi hlt
  rcases hget i x hi with ⟨rfl, rfl⟩ | ⟨hn, hi1⟩
  ·omega
  ·exact ⟨x, hi1⟩
 ·intro i x hi hr
  rcases hget i x hi with ⟨rfl, rfl⟩ | ⟨hn, hi1⟩
  ·rw [hero] at hr; cases hr
  ·exact hi1
theorem owns_one {w : World} {m : Nat} {e : MapEntry} {clock : Nat} {s : ByteArray} (hm : w.heap[m]? = some (.map #[e] clock)) (hk : e.key = .string s) (hs : s.size ≤ 1000) (hb : e.born < clock) :
 w.ownsMap (H := Unit) Tryz.prog 9 (fun _ => some (.nil, [])) m 1 (.map [(.string s.data.toList, .nil)]) := by
 have hkey : keyOf Tryz.prog 9 e.key = some (.string s.data.toList) := by
  rw [hk]; exact Go.WideMaps.keyOf_string_mk Tryz.underlying9 (by unfold maxLen; omega)
 have hrd : WideElems.rd (H := Unit) Tryz.prog 9 (fun _ => some (.nil, [])) e = some (.string s.data.toList, .nil) := by
  simp [WideElems.rd, hkey]
 refine ⟨#[e], clock, hm, ⟨by simp [maxLen], ⟨fun x hx => ?_, by simp, by simp⟩, fun x hx => ?_⟩, by simp, ?_⟩
 ·simp at hx; subst hx; exact hb
 ·simp at hx; subst hx; exact ⟨_, hrd⟩
 ·simp [WideElems.rg, hrd, DataW.insert]
theorem appOk : AppOk := by
 intro args S v S' hx α w args' h ha
 unfold appF at hx
 split at hx
 ·rename_i b
  split at hx
  ·rename_i m esz ro hb
   split at hx
   ·rename_i e c hm
    simp only [Y.req_is, Y.pure_is, Prod.mk.injEq] at hx
    obtain ⟨hk, rfl, rfl⟩ := hx
    unfold okKey at hk
    split at hk
    ·rename_i s hs
     simp only [Bool.and_eq_true, decide_eq_true_eq] at hk
     obtain ⟨hs1, hs2⟩ := hk
     obtain ⟨a0, ha0, hr0⟩ := ha.get (i := 0) rfl
     obtain ⟨a1, ha1, hr1⟩ := ha.get (i := 1) rfl
     have hlen : args'.toList.length = 2 := ha.1.symm
     have hargs : args' = #[a0, a1] := by
      apply Array.toList_inj.1
      rcases hl : args'.toList with _ | ⟨x, _ | ⟨y, _ | ⟨z, l⟩⟩⟩
      ·rw [hl] at hlen; simp at hlen
      ·rw [hl] at hlen; simp at hlen
      ·rw [hl] at ha0 ha1; simp at ha0 ha1; subst ha0; subst ha1; rfl
      ·rw [hl] at hlen; simp at hlen
     subst hargs
     cases hr0
     cases hr1 with
     | func fn a b a' b' hsa hsb hra hrb =>
     have ea : a' = #[] := by
      apply Array.eq_empty_of_size_eq_zero; rw [← hsa]; rfl
     subst ea
     have hb1 : b'.size = 1 := by rw [← hsb]; rfl
     obtain ⟨x, rfl⟩ : ∃ x, b' = #[x] := by
      rcases b' with ⟨_ | ⟨x, _ | ⟨y, l⟩⟩⟩
      ·simp at hb1
      ·exact ⟨x, rfl⟩
      ·simp at hb1
     have hxr := hrb 0 _ x rfl rfl
     cases hxr with
     | ptr i o l hl =>
     obtain ⟨l1, hl1, he1⟩ := h.ent _ _ hb
     rw [hl] at hl1; cases hl1
     obtain ⟨_, cc, ty, fr, hcc, hroom, hcs, _, hcell⟩ := he1
     obtain ⟨v', hv', hvr⟩ := hcell 0 _ rfl
     cases hvr with
     | map i' lm hlm =>
     obtain ⟨lm1, hlm1, he2⟩ := h.ent _ _ hm
     rw [hlm] at hlm1; cases hlm1
     obtain ⟨_, es', hes, hsz, hall⟩ := he2
     obtain ⟨e', rfl⟩ : ∃ e', es' = #[e'] := by
      rcases es' with ⟨_ | ⟨x, _ | ⟨y, l⟩⟩⟩
      ·simp at hsz
      ·exact ⟨x, rfl⟩
      ·simp at hsz
     obtain ⟨hkr, _, hbr⟩ := hall 0 _ e' rfl rfl
     have hk' : e'.key = .string s := by
      rw [hs] at hkr
      generalize e'.key = k0 at hkr
      cases hkr; rfl
     have hown := owns_one (w := w) hes hk' hs1 (by rw [← hbr]; exact hs2)
     have hc : w.cell? ⟨l.blk, l.off + 0, none⟩ = some (.map (some lm.blk)) := by
      simp only [World.cell?, hcc]
      exact hv'
     refine (append_keys l.blk (l.off + 0) lm.blk 1 _ w (h.size _ _ hl) (by simp [Maps.size]) hc hown).mono ?_
     rintro x w' ⟨v, ss, rfl, hp, hrow, hbel⟩
     have hss : ss = [s.data.toList] := List.perm_singleton.1 hp
     subst hss
     rcases hrow.2 with ⟨_, h0⟩ | ⟨g, cap, cur, rfl, hg, hgb, hcap, hcapm, hcur, htake⟩
     ·simp at h0
     ·have hglt : g < w'.heap.size := (Array.getElem?_eq_some_iff.1 hgb).1
      have hcs0 : cur[0]? = some (encStr s.data.toList) := by
       have : (cur.toList.take 1)[0]? = some (encStr s.data.toList) := by
        have e1 : cur.toList.take 1 = [encStr s.data.toList] := htake
        rw [e1]; rfl
       rw [List.getElem?_take, if_pos (by omega)] at this
       simpa using this
      refine ⟨α.upd S.next ⟨g, 0, cap, 1⟩, _, rfl, Next.newAt h (.row [e.key] 1 false) rfl ⟨g, 0, cap, 1⟩ hg hglt hbel ⟨rfl, cur, 9, (0, 0), hgb, by simp [hcur], by simpa using hcap, fun _ => ⟨fun o _ => by omega, Nat.le_refl _⟩, ?_⟩, ?_⟩
      ·intro i v hi
       cases i with
       | zero =>
        simp at hi; subst hi
        refine ⟨_, by simpa using hcs0, ?_⟩
        rw [hs]
        exact .string s
       | succ i => simp at hi
      ·exact VRel.slice S.next 0 1 1 cap ⟨g, 0, cap, 1⟩ (Place.upd_same _ _ _) (Nat.le_refl _) (by simpa using hcap) (by simp)
    ·cases hk
   ·cases hx
  ·cases hx
 ·cases hx
end Go.Xe
