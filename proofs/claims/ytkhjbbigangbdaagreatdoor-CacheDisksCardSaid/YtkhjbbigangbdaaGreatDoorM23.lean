/- A part of the proof. -/
import Derived.Test.YtkhjbbigangbdaaGreatDoorM21
set_option linter.all false
namespace Go.Xe
open Go Go.Proofs
theorem rlCode : codeOf Tryz.prog 19 = .seq (sub (codeOf Tryz.prog 19) [0]) (.seq (.seq (sub (codeOf Tryz.prog 19) [1,0,0]) (.block 0 (.loop rlL1))) (.seq (.seq (sub (codeOf Tryz.prog 19) [1,1,0,0]) (.block 2 (.loop rlL2))) (sub (codeOf Tryz.prog 19) [1,1,1]))) := by kernel_rfl
theorem rlBody : Tryz.f19.body = some (codeOf Tryz.prog 19) := by kernel_rfl
theorem rlGoodA : goodCode (sub (codeOf Tryz.prog 19) [0]) = true := by kernel_rfl
theorem rlGoodB : goodCode (sub (codeOf Tryz.prog 19) [1,0,0]) = true := by kernel_rfl
theorem rlGoodC : goodCode (sub (codeOf Tryz.prog 19) [1,1,0,0]) = true := by kernel_rfl
theorem rlGoodE : goodCode (sub (codeOf Tryz.prog 19) [1,1,1]) = true := by kernel_rfl
def lost (las : List Value) (ks : List Value) (lk : Nat) (cut : Int) (P : Pend) (z : Nat) : List (Nat × Ent) := [(100008, rRow z (.slice none 0 0) false (-1)), (100009, .row (loseP ks lk (lastK ks lk P.length) cut 0 P las) 1 false)]
section
variable {P : Pend} {z : Nat} {S : St} {las : List Value} {on : Bool} {fu cut : Int} {kv : Value} {ks : List Value} {lk : Nat} (I : LoseIn P z S las on fu kv ks lk)
include I
theorem rl_quiet {c : Code} {e : XE} {l l' : List (Nat × Value)} {C' : St} {cl lb : List (Nat × Ent)} (hg : goodCode c = true) (hrun : Runs Tryz.prog okN (xgoO Tryz.prog okN orcZ kp 100) (kp 19) c (slZ 89 l) (ofL cl 200000) e (slZ 89 l') C')
 (hn' : 200000 ≤ C'.next) (hcl : cl = [] ∨ cl = [(100008, rRow z (wrV 100010 P.length) on fu)] ∧ C'.heap.get 100008 = some (rRow z (wrV 100010 P.length) on fu)) (hlb : ∀ k y, (k, y) ∈ lb → k ≠ 100008 ∧ k < S.next + 0 ∧ LowR (S.next + 0) y)
 (h1 : l.all (fun p => low 199997 p.2) = true) (h2 : l'.all (fun p => low 199997 p.2) = true) : SB Tryz.prog S c (slZ 89 l) (S.ups lb S.next) e (slZ 89 l') (S.ups lb S.next) := by
 have hn := I.p.next
 refine SB.near2 (s1 := []) (m := 0) (m' := 0) callZ hg hrun rfl I.p.low hn hn' (Nat.zero_le _) (fun x hx => ?_) (fun x hx => by cases hx) (fun j => rfl) (fun k y h => (hlb k y h).2) (SlRen.slZ (PairsRen.low (piF_keeps _ _) h1)) (SlRen.slZ (PairsRen.low (piF_keeps _ _) h2)) (fun j v h π hk => slZ_low h2 j v h π (hk.mono (by omega)))
 rcases hcl with rfl | ⟨rfl, hc⟩
 ·cases hx
 ·obtain rfl := List.mem_singleton.1 hx
  exact ⟨.inl (Nat.le_of_ble_eq_true rfl), by rw [piF_keeps _ _ _ (Nat.le_of_ble_eq_true rfl), get_putU_of _ _ _ (fun y hy => (hlb _ _ hy).1 rfl)]; exact I.r8, fun π hk => lowE_ren hk (by kernel_rfl), .inr hc⟩
theorem rl_rounds1 : ∀ r i, i + r = P.length → 
 SLB Tryz.prog S (r + 1) rlL1 (slZ 89 (rlH1 kv cut (lastK ks lk i) P.length i)) S (.exit 0) (slZ 89 [(0, Value.pointer (some { block := 100008, off := 0 : Addr })), (1, kv), (2, .int .i64 cut), (6, .int .i64 (lastK ks lk P.length)), (15, .int .i64 (P.length : Int)), (16, .int .i64 (P.length : Int)), (17, Value.bool false)]) S
 | 0, i, hr => by
  obtain rfl : i = P.length := by omega
  obtain ⟨ka, kc, hkv⟩ : ∃ ka kc, kv = .slice ka lk kc := by
   rcases I.keep.v with ⟨rfl, rfl⟩ | ⟨kc, rfl, _⟩
   ·exact ⟨_, _, rfl⟩
   ·exact ⟨_, _, rfl⟩
  have h := rl1x P.length P.length lk kc cut (lastK ks lk P.length) ka
  have f1 : decide (((P.length : Nat) : Int) < (P.length : Int)) = false := decide_eq_false (by omega)
  simp only [f1] at h
  rw [← hkv] at h
  refine SLB.exit (rl_quiet I (lb := []) (l := rlH1 kv cut (lastK ks lk P.length) P.length P.length) rlGood1 (Runs.path yxZ h rfl) (Nat.le_of_ble_eq_true rfl) (.inl rfl) (fun k y h => by cases h) ?_ ?_)
  ·simp only [rlH1, List.all_cons, I.keep.low, List.all_nil, Bool.and_true]; rfl
  ·simp only [List.all_cons, I.keep.low, List.all_nil, Bool.and_true]; rfl
 | r + 1, i, hr => by
  exact SLB.step (rl_round1 I (by omega)) (rl_rounds1 r (i + 1) (by omega))
theorem loseAt_ne (la : Int) (i : Nat) : ∀ k y, (k, y) ∈ loseAt las ks lk la cut P i → k ≠ 100008 ∧ k < S.next + 0 ∧ LowR (S.next + 0) y := fun k y h =>
 ⟨by simp only [loseAt, List.mem_cons, List.not_mem_nil, or_false, Prod.mk.injEq] at h; omega, loseAt_low I i k y h⟩
theorem rl_rounds2 (la : Int) : ∀ r i, i + r = P.length → SLB Tryz.prog S (r + 1) rlL2 (slZ 89 (rlH2 kv cut la P.length i)) (S.ups (loseAt las ks lk la cut P i) S.next) (.exit 2)
 (slZ 89 [(0, Value.pointer (some { block := 100008, off := 0 : Addr })), (1, kv), (2, .int .i64 cut), (6, .int .i64 la), (34, Value.slice (some { block := 100010, off := 0 : Addr }) P.length P.length), (35, .int .i64 (P.length : Int)), (36, .int .i64 (P.length : Int)), (37, Value.bool false)]) (S.ups (loseAt las ks lk la cut P P.length) S.next)
 | 0, i, hr => by
  obtain rfl : i = P.length := by omega
  obtain ⟨ka, kc, hkv⟩ : ∃ ka kc, kv = .slice ka lk kc := by
   rcases I.keep.v with ⟨rfl, rfl⟩ | ⟨kc, rfl, _⟩
   ·exact ⟨_, _, rfl⟩
   ·exact ⟨_, _, rfl⟩
  have h := rl2x P.length P.length lk kc cut la ka
  have f1 : decide (((P.length : Nat) : Int) < (P.length : Int)) = false := decide_eq_false (by omega)
  simp only [f1] at h
  rw [← hkv] at h
  refine SLB.exit (rl_quiet I (l := rlH2 kv cut la P.length P.length) rlGood2 (Runs.path yxZ h rfl) (Nat.le_of_ble_eq_true rfl) (.inl rfl) (loseAt_ne I la _) ?_ ?_)
  ·simp only [rlH2, List.all_cons, I.keep.low, List.all_nil, Bool.and_true]; rfl
  ·simp only [List.all_cons, I.keep.low, List.all_nil, Bool.and_true]; rfl
 | r + 1, i, hr => by
  have hi : i < P.length := by omega
  exact SLB.step (rl_round2 I (List.getElem?_eq_getElem hi)) (rl_rounds2 la r (i + 1) (by omega))
theorem rl_SR : SR Tryz.prog (codeOf Tryz.prog 19) (startX Tryz.f19 [.pointer (some ⟨100008, 0, none⟩), kv, .int .i64 cut]) S .normal (slZ 89 []) (S.ups (lost las ks lk cut P z) S.next) := by
 rw [rlCode]
 have hn := I.p.next
 obtain ⟨ka, kc, hkv⟩ : ∃ ka kc, kv = .slice ka lk kc := by
  rcases I.keep.v with ⟨rfl, rfl⟩ | ⟨kc, rfl, _⟩
  ·exact ⟨_, _, rfl⟩
  ·exact ⟨_, _, rfl⟩
 have hlow := I.keep.low
 have nil : ∀ k (y : Ent), (k, y) ∈ ([] : List (Nat × Ent)) → k ≠ 100008 ∧ k < S.next + 0 ∧ LowR (S.next + 0) y := fun k y h => by cases h
 have start : startX Tryz.f19 [.pointer (some ⟨100008, 0, none⟩), kv, .int .i64 cut] = slZ 89 [(0, .pointer (some ⟨100008, 0, none⟩)), (1, kv), (2, .int .i64 cut)] := by kernel_rfl
 rw [start]
 have hA : SB Tryz.prog S (sub (codeOf Tryz.prog 19) [0]) (slZ 89 [(0, .pointer (some ⟨100008, 0, none⟩)), (1, kv), (2, .int .i64 cut)]) S .normal (slZ 89 [(0, Value.pointer (some { block := 100008, off := 0 : Addr })), (1, kv), (2, .int .i64 cut), (6, .int .i64 (-1))]) S := by
  have h := rlA z P.length lk kc cut fu on ka
  rw [← hkv, start] at h
  exact rl_quiet I (lb := []) rlGoodA (Runs.path yxZ h rfl) (Nat.le_of_ble_eq_true rfl) (.inr ⟨rfl, by kernel_rfl⟩) nil (by simp only [List.all_cons, hlow, List.all_nil, Bool.and_true]; rfl) (by simp only [List.all_cons, hlow, List.all_nil, Bool.and_true]; rfl)
 have hB : SB Tryz.prog S (sub (codeOf Tryz.prog 19) [1,0,0]) (slZ 89 [(0, Value.pointer (some { block := 100008, off := 0 : Addr })), (1, kv), (2, .int .i64 cut), (6, .int .i64 (-1))]) S .normal (slZ 89 (rlH1 kv cut (lastK ks lk 0) P.length 0)) S := by
  have h := rlB z P.length lk kc cut fu on ka
  rw [← hkv] at h
  exact rl_quiet I (lb := []) (l' := rlH1 kv cut (lastK ks lk 0) P.length 0) rlGoodB (Runs.path yxZ h rfl) (Nat.le_of_ble_eq_true rfl) (.inr ⟨rfl, by kernel_rfl⟩) nil (by simp only [List.all_cons, hlow, List.all_nil, Bool.and_true]; rfl) (by simp only [rlH1, List.all_cons, hlow, List.all_nil, Bool.and_true]; rfl)
 have h1 := rl_rounds1 (cut := cut) I P.length 0 (by omega)
 have hC : SB Tryz.prog S (sub (codeOf Tryz.prog 19) [1,1,0,0]) (slZ 89 [(0, Value.pointer (some { block := 100008, off := 0 : Addr })), (1, kv), (2, .int .i64 cut), (6, .int .i64 (lastK ks lk P.length)), (15, .int .i64 (P.length : Int)), (16, .int .i64 (P.length : Int)), (17, Value.bool false)]) S .normal (slZ 89 (rlH2 kv cut (lastK ks lk P.length) P.length 0)) S := by
  have h := rlC z P.length P.length lk kc cut (lastK ks lk P.length) fu on ka
  have f1 : decide (((P.length : Nat) : Int) < (P.length : Int)) = false := decide_eq_false (by omega)
  simp only [f1] at h
  rw [← hkv] at h
  exact rl_quiet I (lb := []) (l' := rlH2 kv cut (lastK ks lk P.length) P.length 0) rlGoodC (Runs.path yxZ h rfl) (Nat.le_of_ble_eq_true rfl) (.inr ⟨rfl, by kernel_rfl⟩) nil (by simp only [List.all_cons, hlow, List.all_nil, Bool.and_true]; rfl) (by simp only [rlH2, List.all_cons, hlow, List.all_nil, Bool.and_true]; rfl)
 have h0 : Moves S (slZ 89 (rlH2 kv cut (lastK ks lk P.length) P.length 0)) S (slZ 89 (rlH2 kv cut (lastK ks lk P.length) P.length 0)) (S.ups (loseAt las ks lk (lastK ks lk P.length) cut P 0) S.next) := by
  refine Moves.less ⟨fun i e hi => ?_, Nat.le_refl _, rfl⟩ rfl (fun i v hi => hi)
  simp only [loseAt, St.ups, putU, PT.get_set] at hi
  split at hi
  ·rename_i h; subst h; cases hi; exact I.r9
  ·exact hi
 have h2 := rl_rounds2 (cut := cut) I (lastK ks lk P.length) P.length 0 (by omega)
 have hE : SB Tryz.prog S (sub (codeOf Tryz.prog 19) [1,1,1]) (slZ 89 [(0, Value.pointer (some { block := 100008, off := 0 : Addr })), (1, kv), (2, .int .i64 cut), (6, .int .i64 (lastK ks lk P.length)), (34, Value.slice (some { block := 100010, off := 0 : Addr }) P.length P.length), (35, .int .i64 (P.length : Int)), (36, .int .i64 (P.length : Int)), (37, Value.bool false)])
  (S.ups (loseAt las ks lk (lastK ks lk P.length) cut P P.length) (S.next + 0)) .normal (slZ 89 []) (S.ups (lost las ks lk cut P z) (S.next + 0)) := by
  have h := rlE z P.length P.length lk kc cut (lastK ks lk P.length) fu on ka
  have f1 : decide (((P.length : Nat) : Int) < (P.length : Int)) = false := decide_eq_false (by omega)
  simp only [f1] at h
  rw [← hkv] at h
  have ht : P.take P.length = P := List.take_length
  have e8 : piF 199998 S.next 100008 = 100008 := piF_keeps _ _ _ (by omega)
  refine SB.near2 (s1 := [(100008, rRow z (.slice none 0 0) false (-1))]) (m := 0) (m' := 0) callZ rlGoodE (Runs.path yxZ h rfl) rfl I.p.low hn (Nat.le_of_ble_eq_true rfl) (Nat.zero_le _) (fun x hx => ?_) (fun x hx => ?_) (fun j => ?_) (fun k y hy => ?_) (SlRen.slZ (PairsRen.low (piF_keeps _ _) ?_)) (SlRen.slZ trivial) (slZ_low rfl)
  ·obtain rfl := List.mem_singleton.1 hx
   exact ⟨.inl (Nat.le_of_ble_eq_true rfl), by rw [piF_keeps _ _ _ (Nat.le_of_ble_eq_true rfl)]; simp only [loseAt, putU]; rw [PT.get_set_ne _ _ (by decide)]; exact I.r8, fun π hk => lowE_ren hk (by kernel_rfl), .inl ⟨_, List.mem_singleton.2 rfl⟩⟩
  ·obtain rfl := List.mem_singleton.1 hx
   exact ⟨by kernel_rfl, fun π hk => lowE_ren hk (by kernel_rfl), rfl⟩
  ·simp only [loseAt, lost, ht, List.map_cons, List.map_nil, List.cons_append, List.nil_append, e8]
  ·simp only [lost, List.mem_cons, List.not_mem_nil, or_false, Prod.mk.injEq] at hy
   rcases hy with ⟨rfl, rfl⟩ | ⟨rfl, rfl⟩
   ·exact ⟨by omega, fun π hk => lowE_ren (m := 200000) (hk.mono (by omega)) (by kernel_rfl)⟩
   ·exact ⟨by omega, fun π _ => bytes_ren (loseP_bytes _ _ _ I.p.fits I.bytes) π⟩
  ·simp only [List.all_cons, hlow, List.all_nil, Bool.and_true]; rfl
 exact SR.ofB (SB.seq hA (SB.seq (SB.seq hB (SB.block_exit (SB.loop h1))) (SB.seq (SB.seq (hC.moves h0) (SB.block_exit (SB.loop h2))) hE)))
end
def keepOf (S : St) (kv : Value) : Option (List Value × Nat) :=
 match kv with
 | .slice none 0 0 => some ([], 0)
 | .slice (some ⟨199990, 0, none⟩) lk _ => match S.heap.get 199990 with
  | some (.row ks 1 true) => some (ks, lk)
  | _ => none
 | _ => none
noncomputable def refLoseF (P : Pend) (z : Nat) (args : List Value) (S : St) : Y (Value × St) :=
 match args with
 | [.pointer (some ⟨100008, 0, none⟩), kv, .int .i64 cut] => match keepOf S kv, S.heap.get 100009 with
  | some (ks, lk), some (.row las 1 false) => match S.heap.get 100008 with
   | some (.row [_, _, .bool on, .int .i64 fu] _ _) => .req (@decide (LoseIn P z S las on fu kv ks lk) (Classical.propDecidable _)) (.pure (.tuple #[], S.ups (lost las ks lk cut P z) S.next))
   | _ => none
  | _, _ => none
 | _ => none
theorem refLoseF_sound (P : Pend) (z : Nat) (args : List Value) (S : St) (v : Value) (S' : St) (hx : refLoseF P z args S = some (true, (v, S'))) (α : Place) (w : World) (args' : Array Value) (h : Rel α S w) (ha : LRel α args args'.toList) :
 Calls Tryz.prog 19 args' w fun e w' => ∃ β v', e = .returned v' ∧ Next α S w β S' w' ∧ VRel β v v' := by
 unfold refLoseF at hx
 split at hx
 ·split at hx
  ·split at hx
   ·simp only [Y.req_is, Y.pure_is, decide_eq_true_eq, Prod.mk.injEq] at hx
    obtain ⟨I, rfl, rfl⟩ := hx
    exact SR.calls Tryz.func19 rlBody (rl_SR I) (.inl rfl) (by kernel_rfl) h ha
   ·cases hx
  ·cases hx
 ·cases hx
end Go.Xe
