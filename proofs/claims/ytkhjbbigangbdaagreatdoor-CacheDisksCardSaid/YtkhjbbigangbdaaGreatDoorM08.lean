/- A part of the proof. -/
import Derived.Test.YtkhjbbigangbdaaGreatDoorM07
set_option linter.all false
namespace Go.Xe
open Go Go.Proofs
def sumStep (h b : Int) : Int :=
 IntKind.wrap IntKind.u64 ↑(BitVec.toNat (BitVec.ofInt 64 (IntKind.wrap IntKind.u64 (IntKind.wrap IntKind.u64 ↑(BitVec.toNat (BitVec.ofInt 64 h ^^^ BitVec.ofInt 64 (IntKind.wrap IntKind.u64 b))) * 1099511628211)) ^^^ BitVec.ofInt 64 (Int.fdiv (IntKind.wrap IntKind.u64 (IntKind.wrap IntKind.u64 ↑(BitVec.toNat (BitVec.ofInt 64 h ^^^ BitVec.ofInt 64 (IntKind.wrap IntKind.u64 b))) * 1099511628211)) 2147483648)))
def sumFrom (h : Int) : List Value → Int
 | [] => h
 | v :: r => sumFrom (sumStep h (intOf v)) r
def sumSeed (at' : Int) : Int := IntKind.wrap IntKind.u64 ↑(BitVec.toNat (BitVec.ofInt 64 14695981039346656037 ^^^ BitVec.ofInt 64 (IntKind.wrap IntKind.u64 (IntKind.wrap IntKind.u64 at' * 11400714819323198485))))
def sumHead (h ix : Int) (o len cap : Nat) (j : Option Value) : XAct := [none, none, none, none, none, some (.int .u64 h), none, none, none, none, none, none, some (.slice (some ⟨0, o, none⟩) len cap), some (.int .i64 len), some (.int .i64 ix), j, none, none, none, none, none, none, none, none, none, none, none, none, none]
def sumHeap (cs : List Value) (ro : Bool) : St := { heap := PT.leaf.set 0 (some (.row cs 1 ro)), next := 1, glob := 0 }
noncomputable abbrev xc0 : XCall := xgoO Tryz.prog okN noOrc kp 100
theorem yx0 : YX yc0 xc0 := ygo_is noOrc kp 100
abbrev Run37 := Runs Tryz.prog okN xc0 (kp 55)
theorem wrap64 {n : Int} (h0 : 0 ≤ n) (h1 : n < 2 ^ 63) : IntKind.wrap .i64 n = n := by
 unfold IntKind.wrap
 have hb : IntKind.i64.bits = 64 := rfl
 have hs : IntKind.i64.signed = true := rfl
 rw [hb, hs]
 have hm : n % (2 ^ 64 : Int) = n := Int.emod_eq_of_lt h0 (by omega)
 rw [hm]
 have : ¬ (n ≥ (2 ^ (64 - 1) : Int)) := by omega
 simp only [Bool.true_and, decide_eq_true_eq, this, if_false]
theorem sum_loop {o len cap : Nat} {cs : List Value} {ro : Bool} (hlen : (len : Int) < 2 ^ 62) (hcs : o + len ≤ cs.length) (hb : ∀ i, i < len → isInt .u8 (cs.getD (o + i) undefX) = true) :
 ∀ (k i : Nat) (h : Int), i + k = len → ∃ h' j, Run37 (.loop (sub (codeOf Tryz.prog 55) [1,1,0,1,0,0])) (sumHead h i o len cap none) (sumHeap cs ro) (.exit 0) (sumHead h' len o len cap j) (sumHeap cs ro) ∧ h' = sumFrom h ((cs.drop (o + i)).take k)
 | 0, i, h, hk => by
  obtain rfl : i = len := by omega
  refine ⟨h, some (.bool (decide ((i : Int) < i))), ?_, by simp [sumFrom]⟩
  refine Runs.loop_exit (Runs.path yx0 (sumLast h i o i cap cs ro) ?_)
  have t1 : decide ((i : Int) < (i : Int)) = false := decide_eq_false (Int.lt_irrefl _)
  rw [t1]
  rfl
 | k + 1, i, h, hk => by
  have hi : i < len := by omega
  have hget : (cs.drop (o + i)).take (k + 1) = cs.getD (o + i) undefX :: (cs.drop (o + (i + 1))).take k := by
   rw [List.drop_eq_getElem_cons (by omega), List.take_succ_cons, List.getD_eq_getElem?_getD, List.getElem?_eq_getElem (by omega), Option.getD_some]
   rfl
  obtain ⟨h', j, h1, h2⟩ := sum_loop hlen hcs hb k (i + 1) (sumStep h (intOf (cs.getD (o + i) undefX))) (by omega)
  refine ⟨h', j, ?_, ?_⟩
  ·have e : o + Int.toNat (i : Int) * 1 = o + i := by rw [Int.toNat_natCast, Nat.mul_one]
   have e2 : IntKind.wrap .i64 ((i : Int) + 1) = ((i + 1 : Nat) : Int) := by rw [wrap64 (by omega) (by omega)]; rfl
   have hr := sumRound h i o len cap cs ro
   rw [e, e2] at hr
   refine Runs.loop (Runs.path yx0 hr ?_) h1
   have t1 : decide ((i : Int) < (len : Int)) = true := decide_eq_true (by omega)
   have t2 : decide ((0 : Int) ≤ (i : Int)) = true := decide_eq_true (by omega)
   have t3 : decide (o + i < cs.length) = true := decide_eq_true (by omega)
   rw [t1, t2, t3, hb i hi]
   rfl
  ·rw [h2, hget]; rfl
theorem code37 : codeOf Tryz.prog 55 = .seq (sub (codeOf Tryz.prog 55) [0]) (.seq (sub (codeOf Tryz.prog 55) [1,0]) (.seq (.seq (sub (codeOf Tryz.prog 55) [1,1,0,0]) (.block 0 (.loop (sub (codeOf Tryz.prog 55) [1,1,0,1,0,0])))) (sub (codeOf Tryz.prog 55) [1,1,1]))) := by kernel_rfl
theorem body37 : Tryz.f55.body = some (codeOf Tryz.prog 55) := by kernel_rfl
theorem sum_runs (at' : Int) {o len cap : Nat} {cs : List Value} {ro : Bool} (hlen : (len : Int) < 2 ^ 62) (hcs : o + len ≤ cs.length) (hb : ∀ i, i < len → isInt .u8 (cs.getD (o + i) undefX) = true) :
 ∃ a', Run37 (codeOf Tryz.prog 55) (startX Tryz.f55 [.int .i64 at', .slice (some ⟨0, o, none⟩) len cap]) (sumHeap cs ro) .ret a' (sumHeap cs ro) ∧
  xres Tryz.prog Tryz.f55 a' (sumHeap cs ro) = some (.int .u64 (sumFrom (sumSeed at') ((cs.drop o).take len))) := by
 obtain ⟨h', j, h1, h2⟩ := sum_loop (cap := cap) (ro := ro) hlen hcs hb len 0 (sumSeed at') (by omega)
 have post := Runs.path yx0 (sumPost h' len o len cap cs ro j) rfl
 have run := Runs.seq (Runs.path yx0 (sumPre0 at' o len cap cs ro) rfl) (Runs.seq (Runs.path yx0 (sumPre1 at' o len cap cs ro) rfl)
  (Runs.seq (Runs.seq (Runs.path yx0 (sumPre2 (sumSeed at') o len cap cs ro) rfl) (Runs.block_exit h1)) post))
 refine ⟨_, by rw [code37]; exact run, ?_⟩
 rw [Nat.add_zero] at h2
 rw [← h2]
 kernel_rfl
def sumF (args : List Value) (S : St) : Y (Value × St) :=
 match args with
 | [.int .i64 at', .slice (some ⟨b, o, none⟩) len cap] => match S.heap.get b with
  | some (.row cs 1 ro) => .req (decide (len < 4611686018427387904)) (.req (decide (o + len ≤ cs.length)) (.req (cs.all (isInt .u8)) (.pure (.int .u64 (sumFrom (sumSeed at') ((cs.drop o).take len)), S))))
  | _ => none
 | _ => none
theorem isInt_plain {k : IntKind} {v : Value} (h : isInt k v = true) : plain1 v = true := by
 cases v <;> first | rfl | (simp [isInt] at h; done)
theorem ints_plain {k : IntKind} {l : List Value} (h : l.all (isInt k) = true) : l.all plain1 = true := by
 rw [List.all_eq_true] at h ⊢
 exact fun v hv => isInt_plain (h v hv)
def pi1 (b : Nat) (S : St) : Nat → Nat := fun i => if i = 0 then b else S.next + (i - 1)
theorem emb1 {b : Nat} {S : St} {e : Ent} (hb : b < S.next) : Emb (pi1 b S) { heap := PT.leaf.set 0 (some e), next := 1, glob := 0 } S :=
 { inj := fun i j hi hj _ => by
    have h1 : i < 1 := hi
    have h2 : j < 1 := hj
    omega
   lt := fun i hi => by
    have h1 : i < 1 := hi
    obtain rfl : i = 0 := by omega
    simpa [pi1] using hb
   new := fun i hi => by
    have h1 : 1 ≤ i := hi
    show (if i = 0 then b else S.next + (i - 1)) = S.next + (i - 1)
    rw [if_neg (by omega)]
   glob := rfl }
theorem get1 {e x : Ent} {i : Nat} (h : (PT.leaf.set 0 (some e)).get i = some x) : i = 0 ∧ x = e := by
 rw [PT.get_set] at h
 split at h
 ·rename_i hi; cases h; exact ⟨hi, rfl⟩
 ·simp [PT.get] at h
theorem one_block {P : Program} {f : FuncId} {b : Nat} {e : Ent} {α : Place} {S : St} {w : World} {v : Value} {args' : Array Value} (h : Rel α S w) (hb : S.heap.get b = some e) (he : ∀ π, RenE π e e) (hv : ∀ π, RenV π v v)
 (hc : Rel (fun i => α (pi1 b S i)) { heap := PT.leaf.set 0 (some e), next := 1, glob := 0 } w →
  Calls P f args' w fun x w' => ∃ β v', x = .returned v' ∧ Next (fun i => α (pi1 b S i)) { heap := PT.leaf.set 0 (some e), next := 1, glob := 0 } w β { heap := PT.leaf.set 0 (some e), next := 1, glob := 0 } w' ∧ VRel β v v') :
 Calls P f args' w fun x w' => ∃ β v', x = .returned v' ∧ Next α S w β S w' ∧ VRel β v v' := by
 have hlt := h.live_lt hb
 have hsm : ∀ i x, (PT.leaf.set 0 (some e)).get i = some x → i < 1 ∧ ∃ y, S.heap.get (pi1 b S i) = some y ∧ RenE (pi1 b S) x y := by
  intro i x hx
  obtain ⟨rfl, rfl⟩ := get1 hx
  exact ⟨by omega, x, by simpa [pi1] using hb, he _⟩
 refine (hc (h.small (emb1 hlt) hsm)).mono ?_
 rintro x w' ⟨β, v', rfl, hn, hvr⟩
 obtain ⟨γ, hg, hβ⟩ := hn.large (S' := S) h (emb1 hlt) hsm (by simp) rfl (fun k y hk => by
  by_cases hkb : k = b
  ·subst hkb
   rw [hb] at hk; cases hk
   exact .inl ⟨0, e, by simp [pi1], by rw [PT.get_set_same], he _, fun _ => hb⟩
  ·refine .inr ⟨hk, h.live_lt hk, fun i x hx => ?_⟩
   obtain ⟨rfl, _⟩ := get1 hx
   simpa [pi1] using hkb)
 exact ⟨γ, v', rfl, hg, (hv _ γ v').1 (by rw [← hβ]; exact hvr)⟩
theorem noOrc_sound : OrcSound Tryz.prog noOrc := fun f F h => by simp [noOrc] at h
theorem call0 : CallSound Tryz.prog xc0 := xgoO_sound mixed okN_ok okN_good noOrc_sound kp 100
theorem sumF_sound (args : List Value) (S : St) (v : Value) (S' : St) (hx : sumF args S = some (true, (v, S'))) (α : Place) (w : World) (args' : Array Value) (h : Rel α S w) (ha : LRel α args args'.toList) :
 Calls Tryz.prog 55 args' w fun e w' => ∃ β v', e = .returned v' ∧ Next α S w β S' w' ∧ VRel β v v' := by
 unfold sumF at hx
 split at hx
 ·rename_i at' b o len cap
  split at hx
  ·rename_i cs ro hb
   simp only [Y.req_is, Y.pure_is, decide_eq_true_eq, Prod.mk.injEq] at hx
   obtain ⟨h1, h2, h3, rfl, rfl⟩ := hx
   refine one_block h hb (fun π => .plain (ints_plain h3)) (fun π => .int _ _) (fun hr => ?_)
   have hbytes : ∀ i, i < len → isInt .u8 (cs.getD (o + i) undefX) = true := by
    intro i hi
    rw [List.getD_eq_getElem?_getD, List.getElem?_eq_getElem (by omega), Option.getD_some]
    exact List.all_eq_true.1 h3 _ (List.getElem_mem _)
   obtain ⟨a', hrun, hres⟩ := sum_runs at' (cap := cap) (ro := ro) (by omega) h2 hbytes
   have hl : LRel (fun i => α (pi1 b S i)) [.int .i64 at', .slice (some ⟨0, o, none⟩) len cap] args'.toList :=
    (RenL.lrel (π := pi1 b S) (.cons (.int _ _) (.cons (.slice 0 o len cap) .nil)) α _).2 (by simpa [pi1] using ha)
   exact Runs.calls mixed okN_ok call0 Tryz.func55 body37 (okN_good 55 _ _ rfl Tryz.func55 body37) hrun (.inr rfl) hres hr hl
  ·cases hx
 ·cases hx
theorem getPre0 (o len cap : Nat) (cs : List Value) (ro : Bool) : ycode Tryz.prog okN yc0 (kp 52) 100 (sub (codeOf Tryz.prog 52) [0]) (startX Tryz.f52 [.slice (some ⟨0, o, none⟩) len cap]) { heap := PT.leaf.set 0 (some (.row cs 1 ro)), next := 1, glob := 0 } [] = some (true, ((XE.normal, [some (Value.slice (some { block := 0, off := o : Addr }) len cap), none, none, none, none, none, none, none, none, none, none, none, none, none, none, none, none, none, none, none, none, none], { heap := PT.node PT.leaf (some (Ent.row cs 1 ro)) PT.leaf, next := 1, glob := 0 : St }), [])) := by kernel_rfl
theorem getPre1 (o len cap : Nat) (cs : List Value) (ro : Bool) : ycode Tryz.prog okN yc0 (kp 52) 100 (sub (codeOf Tryz.prog 52) [1,0]) [some (.slice (some ⟨0, o, none⟩) len cap), none, none, none, none, none, none, none, none, none, none, none, none, none, none, none, none, none, none, none, none, none] { heap := PT.leaf.set 0 (some (.row cs 1 ro)), next := 1, glob := 0 } [] = some (true, ((XE.normal, [some (Value.slice (some { block := 0, off := o : Addr }) len cap), none, none, some (Value.int IntKind.u64 0), none, none, none, none, none, none, none, none, none, none, none, none, none, none, none, none, none, none], { heap := PT.node PT.leaf (some (Ent.row cs 1 ro)) PT.leaf, next := 1, glob := 0 : St }), [])) := by kernel_rfl
theorem getPre2 (h : Int) (o len cap : Nat) (cs : List Value) (ro : Bool) : ycode Tryz.prog okN yc0 (kp 52) 100 (sub (codeOf Tryz.prog 52) [1,1,0,0]) [some (.slice (some ⟨0, o, none⟩) len cap), none, none, some (.int .u64 h), none, none, none, none, none, none, none, none, none, none, none, none, none, none, none, none, none, none] { heap := PT.leaf.set 0 (some (.row cs 1 ro)), next := 1, glob := 0 } [] = some (true, ((XE.normal, [none, none, none, some (Value.int IntKind.u64 h), none, none, some (Value.slice (some { block := 0, off := o : Addr }) len cap), some (Value.int IntKind.i64 ↑len), some (Value.int IntKind.i64 0), none, none, none, none, none, none, none, none, none, none, none, none, none], { heap := PT.node PT.leaf (some (Ent.row cs 1 ro)) PT.leaf, next := 1, glob := 0 : St }), [])) := by kernel_rfl
theorem getRound (h ix : Int) (o len cap : Nat) (cs : List Value) (ro : Bool) : ycode Tryz.prog okN yc0 (kp 52) 100 (sub (codeOf Tryz.prog 52) [1,1,0,1,0,0]) [none, none, none, some (.int .u64 h), none, none, some (.slice (some ⟨0, o, none⟩) len cap), some (.int .i64 len), some (.int .i64 ix), none, none, none, none, none, none, none, none, none, none, none, none, none] { heap := PT.leaf.set 0 (some (.row cs 1 ro)), next := 1, glob := 0 } [true] = some (decide (ix < ↑len) && true && (decide (0 ≤ ix) && (decide (ix < ↑len) && true) && true && true && (decide (o + Int.toNat ix * 1 < List.length cs) && true && (isInt IntKind.u8 (List.getD cs (o + Int.toNat ix * 1) undefX) && true) && true && true && true) && true && (!decide (IntKind.wrap IntKind.i64 (8 * ix) < 0) && true && true && true && true && true) && true && true), ((XE.normal, [none, none, none, some (Value.int IntKind.u64 (IntKind.wrap IntKind.u64 ↑(BitVec.toNat (BitVec.ofInt 64 h ||| BitVec.ofInt 64 (IntKind.wrap IntKind.u64 (IntKind.wrap IntKind.u64 (intOf (List.getD cs (o + Int.toNat ix * 1) undefX)) * 2 ^ min (Int.toNat (IntKind.wrap IntKind.i64 (8 * ix))) 64)))))), none, none, some (Value.slice (some { block := 0, off := o : Addr }) len cap), some (Value.int IntKind.i64 ↑len), some (Value.int IntKind.i64 (IntKind.wrap IntKind.i64 (ix + 1))), none, none, none, none, none, none, none, none, none, none, none, none, none], { heap := PT.node PT.leaf (some (Ent.row cs 1 ro)) PT.leaf, next := 1, glob := 0 : St }), [])) := by kernel_rfl
theorem getLast (h ix : Int) (o len cap : Nat) (cs : List Value) (ro : Bool) : ycode Tryz.prog okN yc0 (kp 52) 100 (sub (codeOf Tryz.prog 52) [1,1,0,1,0,0]) [none, none, none, some (.int .u64 h), none, none, some (.slice (some ⟨0, o, none⟩) len cap), some (.int .i64 len), some (.int .i64 ix), none, none, none, none, none, none, none, none, none, none, none, none, none] { heap := PT.leaf.set 0 (some (.row cs 1 ro)), next := 1, glob := 0 } [false] = some (!decide (ix < ↑len) && true && true, ((XE.exit 0, [none, none, none, some (Value.int IntKind.u64 h), none, none, some (Value.slice (some { block := 0, off := o : Addr }) len cap), some (Value.int IntKind.i64 ↑len), some (Value.int IntKind.i64 ix), some (Value.bool (decide (ix < ↑len))), none, none, none, none, none, none, none, none, none, none, none, none], { heap := PT.node PT.leaf (some (Ent.row cs 1 ro)) PT.leaf, next := 1, glob := 0 : St }), [])) := by kernel_rfl
theorem getPost (h ix : Int) (o len cap : Nat) (cs : List Value) (ro : Bool) (j : Option Value) : ycode Tryz.prog okN yc0 (kp 52) 100 (sub (codeOf Tryz.prog 52) [1,1,1]) [none, none, none, some (.int .u64 h), none, none, some (.slice (some ⟨0, o, none⟩) len cap), some (.int .i64 len), some (.int .i64 ix), j, none, none, none, none, none, none, none, none, none, none, none, none] { heap := PT.leaf.set 0 (some (.row cs 1 ro)), next := 1, glob := 0 } [] = some (true, ((XE.ret, [none, none, some (Value.int IntKind.u64 h), none, none, none, none, none, none, none, none, none, none, none, none, none, none, none, none, none, none, none], { heap := PT.node PT.leaf (some (Ent.row cs 1 ro)) PT.leaf, next := 1, glob := 0 : St }), [])) := by kernel_rfl
def getStep (h : Int) (i : Nat) (b : Int) : Int :=
 IntKind.wrap IntKind.u64 ↑(BitVec.toNat (BitVec.ofInt 64 h ||| BitVec.ofInt 64 (IntKind.wrap IntKind.u64 (IntKind.wrap IntKind.u64 b * 2 ^ min (8 * i) 64))))
def getFrom (h : Int) (i : Nat) : List Value → Int
 | [] => h
 | v :: r => getFrom (getStep h i (intOf v)) (i + 1) r
def getHead (h ix : Int) (o len cap : Nat) (j : Option Value) : XAct := [none, none, none, some (.int .u64 h), none, none, some (.slice (some ⟨0, o, none⟩) len cap), some (.int .i64 len), some (.int .i64 ix), j, none, none, none, none, none, none, none, none, none, none, none, none]
abbrev Run34 := Runs Tryz.prog okN xc0 (kp 52)
theorem get_loop {o len cap : Nat} {cs : List Value} {ro : Bool} (hlen : (len : Int) < 2 ^ 59) (hcs : o + len ≤ cs.length) (hb : ∀ i, i < len → isInt .u8 (cs.getD (o + i) undefX) = true) :
 ∀ (k i : Nat) (h : Int), i + k = len → ∃ h' j, Run34 (.loop (sub (codeOf Tryz.prog 52) [1,1,0,1,0,0])) (getHead h i o len cap none) (sumHeap cs ro) (.exit 0) (getHead h' len o len cap j) (sumHeap cs ro) ∧ h' = getFrom h i ((cs.drop (o + i)).take k)
 | 0, i, h, hk => by
  obtain rfl : i = len := by omega
  refine ⟨h, some (.bool (decide ((i : Int) < i))), ?_, by simp [getFrom]⟩
  refine Runs.loop_exit (Runs.path yx0 (getLast h i o i cap cs ro) ?_)
  have t1 : decide ((i : Int) < (i : Int)) = false := decide_eq_false (Int.lt_irrefl _)
  rw [t1]
  rfl
 | k + 1, i, h, hk => by
  have hi : i < len := by omega
  have hget : (cs.drop (o + i)).take (k + 1) = cs.getD (o + i) undefX :: (cs.drop (o + (i + 1))).take k := by
   rw [List.drop_eq_getElem_cons (by omega), List.take_succ_cons, List.getD_eq_getElem?_getD, List.getElem?_eq_getElem (by omega), Option.getD_some]
   rfl
  obtain ⟨h', j, h1, h2⟩ := get_loop hlen hcs hb k (i + 1) (getStep h i (intOf (cs.getD (o + i) undefX))) (by omega)
  refine ⟨h', j, ?_, ?_⟩
  ·have e : o + Int.toNat (i : Int) * 1 = o + i := by rw [Int.toNat_natCast, Nat.mul_one]
   have e2 : IntKind.wrap .i64 ((i : Int) + 1) = ((i + 1 : Nat) : Int) := by rw [wrap64 (by omega) (by omega)]; rfl
   have e3 : IntKind.wrap .i64 (8 * (i : Int)) = ((8 * i : Nat) : Int) := by rw [wrap64 (by omega) (by omega)]; rfl
   have hr := getRound h i o len cap cs ro
   rw [e, e2, e3, Int.toNat_natCast] at hr
   refine Runs.loop (Runs.path yx0 hr ?_) h1
   have t1 : decide ((i : Int) < (len : Int)) = true := decide_eq_true (by omega)
   have t2 : decide ((0 : Int) ≤ (i : Int)) = true := decide_eq_true (by omega)
   have t3 : decide (o + i < cs.length) = true := decide_eq_true (by omega)
   have t4 : decide (((8 * i : Nat) : Int) < 0) = false := decide_eq_false (by omega)
   rw [t1, t2, t3, t4, hb i hi]
   rfl
  ·rw [h2, hget]; rfl
theorem code34 : codeOf Tryz.prog 52 = .seq (sub (codeOf Tryz.prog 52) [0]) (.seq (sub (codeOf Tryz.prog 52) [1,0]) (.seq (.seq (sub (codeOf Tryz.prog 52) [1,1,0,0]) (.block 0 (.loop (sub (codeOf Tryz.prog 52) [1,1,0,1,0,0])))) (sub (codeOf Tryz.prog 52) [1,1,1]))) := by kernel_rfl
theorem body34 : Tryz.f52.body = some (codeOf Tryz.prog 52) := by kernel_rfl
theorem get_runs {o len cap : Nat} {cs : List Value} {ro : Bool} (hlen : (len : Int) < 2 ^ 59) (hcs : o + len ≤ cs.length) (hb : ∀ i, i < len → isInt .u8 (cs.getD (o + i) undefX) = true) :
 ∃ a', Run34 (codeOf Tryz.prog 52) (startX Tryz.f52 [.slice (some ⟨0, o, none⟩) len cap]) (sumHeap cs ro) .ret a' (sumHeap cs ro) ∧
  xres Tryz.prog Tryz.f52 a' (sumHeap cs ro) = some (.int .u64 (getFrom 0 0 ((cs.drop o).take len))) := by
 obtain ⟨h', j, h1, h2⟩ := get_loop (cap := cap) (ro := ro) hlen hcs hb len 0 0 (by omega)
 have post := Runs.path yx0 (getPost h' len o len cap cs ro j) rfl
 have run := Runs.seq (Runs.path yx0 (getPre0 o len cap cs ro) rfl) (Runs.seq (Runs.path yx0 (getPre1 o len cap cs ro) rfl)
  (Runs.seq (Runs.seq (Runs.path yx0 (getPre2 0 o len cap cs ro) rfl) (Runs.block_exit h1)) post))
 refine ⟨_, by rw [code34]; exact run, ?_⟩
 rw [Nat.add_zero] at h2
 rw [← h2]
 kernel_rfl
def getF (args : List Value) (S : St) : Y (Value × St) :=
 match args with
 | [.slice (some ⟨b, o, none⟩) len cap] => match S.heap.get b with
  | some (.row cs 1 ro) => .req (decide (len < 576460752303423488)) (.req (decide (o + len ≤ cs.length)) (.req (cs.all (isInt .u8)) (.pure (.int .u64 (getFrom 0 0 ((cs.drop o).take len)), S))))
  | _ => none
 | _ => none
theorem getF_sound (args : List Value) (S : St) (v : Value) (S' : St) (hx : getF args S = some (true, (v, S'))) (α : Place) (w : World) (args' : Array Value) (h : Rel α S w) (ha : LRel α args args'.toList) :
 Calls Tryz.prog 52 args' w fun e w' => ∃ β v', e = .returned v' ∧ Next α S w β S' w' ∧ VRel β v v' := by
 unfold getF at hx
 split at hx
 ·rename_i b o len cap
  split at hx
  ·rename_i cs ro hb
   simp only [Y.req_is, Y.pure_is, decide_eq_true_eq, Prod.mk.injEq] at hx
   obtain ⟨h1, h2, h3, rfl, rfl⟩ := hx
   refine one_block h hb (fun π => .plain (ints_plain h3)) (fun π => .int _ _) (fun hr => ?_)
   have hbytes : ∀ i, i < len → isInt .u8 (cs.getD (o + i) undefX) = true := by
    intro i hi
    rw [List.getD_eq_getElem?_getD, List.getElem?_eq_getElem (by omega), Option.getD_some]
    exact List.all_eq_true.1 h3 _ (List.getElem_mem _)
   obtain ⟨a', hrun, hres⟩ := get_runs (cap := cap) (ro := ro) (by omega) h2 hbytes
   have hl : LRel (fun i => α (pi1 b S i)) [.slice (some ⟨0, o, none⟩) len cap] args'.toList :=
    (RenL.lrel (π := pi1 b S) (.cons (.slice 0 o len cap) .nil) α _).2 (by simpa [pi1] using ha)
   exact Runs.calls mixed okN_ok call0 Tryz.func52 body34 (okN_good 52 _ _ rfl Tryz.func52 body34) hrun (.inr rfl) hres hr hl
  ·cases hx
 ·cases hx
def isByte : Value → Bool
 | .int .u8 n => decide (0 ≤ n) && decide (n < 256)
 | _ => false
theorem isByte_int {v : Value} (h : isByte v = true) : isInt .u8 v = true := by
 unfold isByte at h
 split at h
 ·simp [isInt]
 ·cases h
theorem isByte_nat {v : Value} (h : isByte v = true) : ∃ n : Nat, n < 256 ∧ v = .int .u8 n := by
 unfold isByte at h
 split at h
 ·rename_i n
  simp only [Bool.and_eq_true, decide_eq_true_eq] at h
  exact ⟨n.toNat, by omega, by rw [Int.toNat_of_nonneg h.1]⟩
 ·cases h
theorem bytes_ints {l : List Value} (h : l.all isByte = true) : l.all (isInt .u8) = true := by
 rw [List.all_eq_true] at h ⊢
 exact fun v hv => isByte_int (h v hv)
theorem wrapU64 {n : Nat} (h : n < 2 ^ 64) : IntKind.wrap .u64 (n : Int) = n := by
 unfold IntKind.wrap
 have hb : IntKind.u64.bits = 64 := rfl
 have hs : IntKind.u64.signed = false := rfl
 rw [hb, hs]
 simp only [Bool.false_and, Bool.false_eq_true, if_false]
 exact Int.emod_eq_of_lt (Int.natCast_nonneg n) (by omega)
theorem wrapU8 {n : Nat} : IntKind.wrap .u8 (n : Int) = ((n % 256 : Nat) : Int) := by
 unfold IntKind.wrap
 have hb : IntKind.u8.bits = 8 := rfl
 have hs : IntKind.u8.signed = false := rfl
 rw [hb, hs]
 simp only [Bool.false_and, Bool.false_eq_true, if_false]
 rfl
theorem getStep_eq {hn bn i : Nat} (hi : i < 8) (hh : hn < 2 ^ (8 * i)) (hb : bn < 256) : getStep (hn : Int) i (bn : Int) = ((hn + 2 ^ (8 * i) * bn : Nat) : Int) := by
 have h0 : 2 ^ (8 * i) * 256 ≤ 2 ^ 64 := by
  have : 2 ^ (8 * i) * 2 ^ 8 = 2 ^ (8 * i + 8) := by rw [Nat.pow_add]
  have h2 : 2 ^ (8 * i + 8) ≤ 2 ^ 64 := Nat.pow_le_pow_right (by omega) (by omega)
  omega
 have h1 : 2 ^ (8 * i) * bn + 2 ^ (8 * i) ≤ 2 ^ 64 := by
  have h3 : 2 ^ (8 * i) * (bn + 1) ≤ 2 ^ (8 * i) * 256 := Nat.mul_le_mul_left _ (by omega)
  rw [Nat.mul_add, Nat.mul_one] at h3
  omega
 unfold getStep
 rw [Nat.min_eq_left (by omega), wrapU64 (n := bn) (by omega)]
 have e1 : (bn : Int) * 2 ^ (8 * i) = ((2 ^ (8 * i) * bn : Nat) : Int) := by
  rw [Int.mul_comm]; push_cast; rfl
 rw [e1, wrapU64 (n := 2 ^ (8 * i) * bn) (by omega), BitVec.ofInt_natCast, BitVec.ofInt_natCast, BitVec.toNat_or, BitVec.toNat_ofNat, BitVec.toNat_ofNat, Nat.mod_eq_of_lt (by omega), Nat.mod_eq_of_lt (by omega)]
 have e2 : hn ||| 2 ^ (8 * i) * bn = hn + 2 ^ (8 * i) * bn := by
  rw [Nat.or_comm, Nat.mul_comm, ← Nat.shiftLeft_eq, ← Nat.shiftLeft_add_eq_or_of_lt hh, Nat.add_comm]
 rw [e2]
 exact wrapU64 (by omega)
def leN : List Value → Nat
 | [] => 0
 | v :: r => (intOf v).toNat + 256 * leN r
theorem leN_lt : ∀ {l : List Value}, l.all isByte = true → leN l < 256 ^ l.length
 | [], _ => by simp [leN]
 | v :: r, h => by
  simp only [List.all_cons, Bool.and_eq_true] at h
  obtain ⟨n, hn, rfl⟩ := isByte_nat h.1
  have := leN_lt h.2
  simp only [leN, intOf, Int.toNat_natCast, List.length_cons, Nat.pow_succ]
  omega
theorem getFrom_eq : ∀ (l : List Value) (hn i : Nat), hn < 2 ^ (8 * i) → i + l.length ≤ 8 → l.all isByte = true → getFrom (hn : Int) i l = ((hn + 2 ^ (8 * i) * leN l : Nat) : Int)
 | [], hn, i, h1, h2, _ => by simp [getFrom, leN]
 | v :: r, hn, i, h1, h2, h3 => by
  simp only [List.all_cons, Bool.and_eq_true] at h3
  obtain ⟨n, hn', rfl⟩ := isByte_nat h3.1
  simp only [List.length_cons] at h2
  have hp : 2 ^ (8 * (i + 1)) = 2 ^ (8 * i) * 256 := by rw [Nat.mul_add, Nat.pow_add]
  have hlt : hn + 2 ^ (8 * i) * n < 2 ^ (8 * (i + 1)) := by
   have : 2 ^ (8 * i) * (n + 1) ≤ 2 ^ (8 * i) * 256 := Nat.mul_le_mul_left _ (by omega)
   rw [Nat.mul_add, Nat.mul_one] at this
   omega
  simp only [getFrom, intOf]
  rw [getStep_eq (by omega) h1 hn', getFrom_eq r _ _ hlt (by omega) h3.2, hp]
  congr 1
  simp only [leN, intOf, Int.toNat_natCast]
  rw [Nat.mul_add, Nat.mul_assoc]
  omega
theorem get_eq (l : List Value) (h : l.length ≤ 8) (hb : l.all isByte = true) : getFrom 0 0 l = (leN l : Int) := by
 have := getFrom_eq l 0 0 (by simp) (by omega) hb
 simpa using this
def leB : Nat → Nat → List Value
 | _, 0 => []
 | n, k + 1 => .int .u8 ((n % 256 : Nat) : Int) :: leB (n / 256) k
theorem leB_length : ∀ (k n : Nat), (leB n k).length = k
 | 0, n => rfl
 | k + 1, n => by simp [leB, leB_length k]
theorem leB_bytes : ∀ (k n : Nat), (leB n k).all isByte = true
 | 0, n => rfl
 | k + 1, n => by
  have : n % 256 < 256 := Nat.mod_lt _ (by omega)
  simp only [leB, List.all_cons, leB_bytes k, Bool.and_true, isByte, Bool.and_eq_true, decide_eq_true_eq]
  omega
theorem leN_leB : ∀ (k n : Nat), leN (leB n k) = n % 256 ^ k
 | 0, n => by simp [leB, leN, Nat.mod_one]
 | k + 1, n => by
  simp only [leB, leN, intOf, Int.toNat_natCast, leN_leB k]
  rw [Nat.pow_succ, Nat.mul_comm (256 ^ k) 256, Nat.mod_mul]
section
variable {P : Program} {f : FuncId} {b : Nat} {e e2 : Ent} {α : Place} {S : St} {w : World} {v v2 : Value} {args' : Array Value} {k K : Nat}
theorem small1 (hb : S.heap.get b = some e) (he : ∀ π, RenE π e e) : ∀ i x, (PT.leaf.set 0 (some e)).get i = some x → i < 1 ∧ ∃ y, S.heap.get (pi1 b S i) = some y ∧ RenE (pi1 b S) x y := by
 intro i x hx
 obtain ⟨rfl, rfl⟩ := get1 hx
 exact ⟨by omega, x, by simpa [pi1] using hb, he _⟩
theorem one_none (h : Rel α S w) (hb : S.heap.get b = some e) (he : ∀ π, RenE π e e) (hv : ∀ π, RenV π v v)
 (hc : Rel (fun i => α (pi1 b S i)) { heap := PT.leaf.set 0 (some e), next := 1, glob := 0 } w →
  Calls P f args' w fun x w' => ∃ β v', x = .returned v' ∧ Next (fun i => α (pi1 b S i)) { heap := PT.leaf.set 0 (some e), next := 1, glob := 0 } w β { heap := PT.leaf.set 0 (some e), next := 1 + K, glob := 0 } w' ∧ VRel β v v') :
 Calls P f args' w fun x w' => ∃ β v', x = .returned v' ∧ Next α S w β { S with next := S.next + K } w' ∧ VRel β v v' := by
 have hlt := h.live_lt hb
 have hsm := small1 (S := S) hb he
 refine (hc (h.small (emb1 hlt) hsm)).mono ?_
 rintro x w' ⟨β, v', rfl, hn, hvr⟩
 obtain ⟨γ, hg, hβ⟩ := hn.large (S' := { S with next := S.next + K }) h (emb1 hlt) hsm (by simp) rfl (fun k y hk => by
  by_cases hkb : k = b
  ·subst hkb
   have hk' : S.heap.get k = some y := hk
   rw [hb] at hk'; cases hk'
   exact .inl ⟨0, e, by simp [pi1], by rw [PT.get_set_same], he _, fun _ => hb⟩
  ·refine .inr ⟨hk, h.live_lt hk, fun i x hx => ?_⟩
   obtain ⟨rfl, _⟩ := get1 hx
   simpa [pi1] using hkb)
 exact ⟨γ, v', rfl, hg, (hv _ γ v').1 (by rw [← hβ]; exact hvr)⟩
theorem one_move (hk1 : 1 ≤ k) (hkK : k ≤ K) (h : Rel α S w) (hb : S.heap.get b = some e) (he : ∀ π, RenE π e e) (he2 : ∀ π, RenE π e2 e2) (hro : e2.ro = false) (hv : RenV (pi1 b S) v v2)
 (hc : Rel (fun i => α (pi1 b S i)) { heap := PT.leaf.set 0 (some e), next := 1, glob := 0 } w →
  Calls P f args' w fun x w' => ∃ β v', x = .returned v' ∧ Next (fun i => α (pi1 b S i)) { heap := PT.leaf.set 0 (some e), next := 1, glob := 0 } w β { heap := PT.leaf.set k (some e2), next := 1 + K, glob := 0 } w' ∧ VRel β v v') :
 Calls P f args' w fun x w' => ∃ β v', x = .returned v' ∧ Next α S w β { S with heap := (S.heap.set b none).set (S.next + (k - 1)) (some e2), next := S.next + K } w' ∧ VRel β v2 v' := by
 have hlt := h.live_lt hb
 have hsm := small1 (S := S) hb he
 refine (hc (h.small (emb1 hlt) hsm)).mono ?_
 rintro x w' ⟨β, v', rfl, hn, hvr⟩
 obtain ⟨γ, hg, hβ⟩ := hn.large (S' := { S with heap := (S.heap.set b none).set (S.next + (k - 1)) (some e2), next := S.next + K }) h (emb1 hlt) hsm (by simp) rfl (fun j y hj => by
  have hj' : ((S.heap.set b none).set (S.next + (k - 1)) (some e2)).get j = some y := hj
  rw [PT.get_set] at hj'
  split at hj'
  ·rename_i hjk
   cases hj'
   refine .inl ⟨k, e2, ?_, by rw [PT.get_set_same], he2 _, fun hr => by rw [hro] at hr; cases hr⟩
   rw [hjk]
   show _ = if k = 0 then b else _
   rw [if_neg (by omega)]
  ·rw [PT.get_set] at hj'
   split at hj'
   ·cases hj'
   ·rename_i hkb
    refine .inr ⟨hj', h.live_lt hj', fun i x hx => ?_⟩
    obtain ⟨rfl, _⟩ := get1 hx
    simpa [pi1] using hkb)
 exact ⟨γ, v', rfl, hg, (hv γ v').1 (by rw [← hβ]; exact hvr)⟩
end
theorem put2 (n o len cap : Nat) (cs : List Value) : ycode Tryz.prog okN yc0 (kp 72) 100 (codeOf Tryz.prog 72) (startX Tryz.f72 [.slice (some ⟨0, o, none⟩) len cap, .int .u64 (n : Int), .int .i64 2]) { heap := PT.leaf.set 0 (some (.row cs 1 false)), next := 1, glob := 0 } (bits 7 9) = (let x0 := List.take (len * 1) (List.drop o cs) ++ List.take 1 (List.drop 0 (splice (zerosL [Value.int .u8 0] 1) 0 [Value.int .u8 (IntKind.wrap .u8 (n : Int))])); let x1 := List.take ((len + 1) * 1) (List.drop 0 x0) ++ List.take 1 (List.drop 0 (splice (zerosL [Value.int .u8 0] 1) 0 [Value.int .u8 (IntKind.wrap .u8 (Int.fdiv (n : Int) 256))])); some (decide (len ≤ cap) && (!decide (len + 1 ≤ cap) && (decide ((len + 1) * 1 ≤ 140737488355328) && (decide (len + 1 ≤ 9223372036854775807) && (decide (o + len * 1 ≤ List.length cs) && (List.all x0 one && true && true))))) && true && true && true && true && true && true && true && (decide (len + 1 ≤ len + 1) && (!decide (len + 1 + 1 ≤ len + 1) && (decide ((len + 1 + 1) * 1 ≤ 140737488355328) && (decide (len + 1 + 1 ≤ 9223372036854775807) && (decide (0 + (len + 1) * 1 ≤ List.length x0) && (List.all x1 one && true && true))))) && true && true && true && true && true && true && true && true) && true && true, ((XE.ret, (nn 6 ++ [some (Value.slice (ad 4) (len + 1 + 1) (len + 1 + 1))] ++ nn 12), ⟨(nd (.node (lr [Value.int .u8 (IntKind.wrap .u8 (Int.fdiv (n : Int) 256))] 1 false) (some (Ent.row [Value.int .u8 (IntKind.wrap .u8 (n : Int))] 1 false)) .leaf) (le (lr x1 1 false))), 5, 0⟩), []))) := by kernel_rfl
theorem put4 (n o len cap : Nat) (cs : List Value) : ycode Tryz.prog okN yc0 (kp 72) 100 (codeOf Tryz.prog 72) (startX Tryz.f72 [.slice (some ⟨0, o, none⟩) len cap, .int .u64 (n : Int), .int .i64 4]) { heap := PT.leaf.set 0 (some (.row cs 1 false)), next := 1, glob := 0 } (bits 13 585) = (let x3 := List.take (len * 1) (List.drop o cs) ++ List.take 1 (List.drop 0 (splice (zerosL [Value.int .u8 0] 1) 0 [Value.int .u8 (IntKind.wrap .u8 (n : Int))])); let x0 := List.take ((len + 1) * 1) (List.drop 0 x3) ++ List.take 1 (List.drop 0 (splice (zerosL [Value.int .u8 0] 1) 0 [Value.int .u8 (IntKind.wrap .u8 (Int.fdiv (n : Int) 256))])); let x1 := List.take ((len + 1 + 1) * 1) (List.drop 0 x0) ++ List.take 1 (List.drop 0 (splice (zerosL [Value.int .u8 0] 1) 0 [Value.int .u8 (IntKind.wrap .u8 (Int.fdiv (Int.fdiv (n : Int) 256) 256))])); let x2 := List.take ((len + 1 + 1 + 1) * 1) (List.drop 0 x1) ++ List.take 1 (List.drop 0 (splice (zerosL [Value.int .u8 0] 1) 0 [Value.int .u8 (IntKind.wrap .u8 (Int.fdiv (Int.fdiv (Int.fdiv (n : Int) 256) 256) 256))])); some (decide (len ≤ cap) && (!decide (len + 1 ≤ cap) && (decide ((len + 1) * 1 ≤ 140737488355328) && (decide (len + 1 ≤ 9223372036854775807) && (decide (o + len * 1 ≤ List.length cs) && (List.all x3 one && true && true))))) && true && true && true && true && true && true && true && (decide (len + 1 ≤ len + 1) && (!decide (len + 1 + 1 ≤ len + 1) && (decide ((len + 1 + 1) * 1 ≤ 140737488355328) && (decide (len + 1 + 1 ≤ 9223372036854775807) && (decide (0 + (len + 1) * 1 ≤ List.length x3) && (List.all x0 one && true && true))))) && true && true && true && true && true && true && true && (decide (len + 1 + 1 ≤ len + 1 + 1) && (!decide (len + 1 + 1 + 1 ≤ len + 1 + 1) && (decide ((len + 1 + 1 + 1) * 1 ≤ 140737488355328) && (decide (len + 1 + 1 + 1 ≤ 9223372036854775807) && (decide (0 + (len + 1 + 1) * 1 ≤ List.length x0) && (List.all x1 one && true && true))))) && true && true && true && true && true && true && true && (decide (len + 1 + 1 + 1 ≤ len + 1 + 1 + 1) && (!decide (len + 1 + 1 + 1 + 1 ≤ len + 1 + 1 + 1) && (decide ((len + 1 + 1 + 1 + 1) * 1 ≤ 140737488355328) && (decide (len + 1 + 1 + 1 + 1 ≤ 9223372036854775807) && (decide (0 + (len + 1 + 1 + 1) * 1 ≤ List.length x1) && (List.all x2 one && true && true))))) && true && true && true && true && true && true && true && true))) && true && true, ((XE.ret, (nn 6 ++ [some (Value.slice (ad 8) (len + 1 + 1 + 1 + 1) (len + 1 + 1 + 1 + 1))] ++ nn 12), ⟨(nd (.node (.node (lr [Value.int .u8 (IntKind.wrap .u8 (Int.fdiv (Int.fdiv (Int.fdiv (n : Int) 256) 256) 256))] 1 false) (some (Ent.row [Value.int .u8 (IntKind.wrap .u8 (Int.fdiv (n : Int) 256))] 1 false)) .leaf) (some (Ent.row [Value.int .u8 (IntKind.wrap .u8 (n : Int))] 1 false)) (lr [Value.int .u8 (IntKind.wrap .u8 (Int.fdiv (Int.fdiv (n : Int) 256) 256))] 1 false)) (nd (le (lr x2 1 false)) (l0))), 9, 0⟩), []))) := by kernel_rfl
theorem put8 (n o len cap : Nat) (cs : List Value) : ycode Tryz.prog okN yc0 (kp 72) 100 (codeOf Tryz.prog 72) (startX Tryz.f72 [.slice (some ⟨0, o, none⟩) len cap, .int .u64 (n : Int), .int .i64 8]) { heap := PT.leaf.set 0 (some (.row cs 1 false)), next := 1, glob := 0 } (bits 25 2396745) = (let x4 := [Value.int .u8 (IntKind.wrap .u8 (Int.fdiv (Int.fdiv (Int.fdiv (Int.fdiv (Int.fdiv (Int.fdiv (Int.fdiv (n : Int) 256) 256) 256) 256) 256) 256) 256))]; let x7 := List.take (len * 1) (List.drop o cs) ++ List.take 1 (List.drop 0 (splice (zerosL [Value.int .u8 0] 1) 0 [Value.int .u8 (IntKind.wrap .u8 (n : Int))])); let x1 := List.take ((len + 1) * 1) (List.drop 0 x7) ++ List.take 1 (List.drop 0 (splice (zerosL [Value.int .u8 0] 1) 0 [Value.int .u8 (IntKind.wrap .u8 (Int.fdiv (n : Int) 256))])); let x3 := List.take ((len + 1 + 1) * 1) (List.drop 0 x1) ++ List.take 1 (List.drop 0 (splice (zerosL [Value.int .u8 0] 1) 0 [Value.int .u8 (IntKind.wrap .u8 (Int.fdiv (Int.fdiv (n : Int) 256) 256))])); let x6 := List.take ((len + 1 + 1 + 1) * 1) (List.drop 0 x3) ++ List.take 1 (List.drop 0 (splice (zerosL [Value.int .u8 0] 1) 0 [Value.int .u8 (IntKind.wrap .u8 (Int.fdiv (Int.fdiv (Int.fdiv (n : Int) 256) 256) 256))])); let x0 := List.take ((len + 1 + 1 + 1 + 1) * 1) (List.drop 0 x6) ++ List.take 1 (List.drop 0 (splice (zerosL [Value.int .u8 0] 1) 0 [Value.int .u8 (IntKind.wrap .u8 (Int.fdiv (Int.fdiv (Int.fdiv (Int.fdiv (n : Int) 256) 256) 256) 256))])); let x5 := List.take ((len + 1 + 1 + 1 + 1 + 1) * 1) (List.drop 0 x0) ++ List.take 1 (List.drop 0 (splice (zerosL [Value.int .u8 0] 1) 0 [Value.int .u8 (IntKind.wrap .u8 (Int.fdiv (Int.fdiv (Int.fdiv (Int.fdiv (Int.fdiv (n : Int) 256) 256) 256) 256) 256))])); let x2 := List.take ((len + 1 + 1 + 1 + 1 + 1 + 1) * 1) (List.drop 0 x5) ++ List.take 1 (List.drop 0 (splice (zerosL [Value.int .u8 0] 1) 0 [Value.int .u8 (IntKind.wrap .u8 (Int.fdiv (Int.fdiv (Int.fdiv (Int.fdiv (Int.fdiv (Int.fdiv (n : Int) 256) 256) 256) 256) 256) 256))])); let x8 := List.take ((len + 1 + 1 + 1 + 1 + 1 + 1 + 1) * 1) (List.drop 0 x2) ++ List.take 1 (List.drop 0 (splice (zerosL [Value.int .u8 0] 1) 0 x4)); some (decide (len ≤ cap) && (!decide (len + 1 ≤ cap) && (decide ((len + 1) * 1 ≤ 140737488355328) && (decide (len + 1 ≤ 9223372036854775807) && (decide (o + len * 1 ≤ List.length cs) && (List.all x7 one && true && true))))) && true && true && true && true && true && true && true && (decide (len + 1 ≤ len + 1) && (!decide (len + 1 + 1 ≤ len + 1) && (decide ((len + 1 + 1) * 1 ≤ 140737488355328) && (decide (len + 1 + 1 ≤ 9223372036854775807) && (decide (0 + (len + 1) * 1 ≤ List.length x7) && (List.all x1 one && true && true))))) && true && true && true && true && true && true && true && (decide (len + 1 + 1 ≤ len + 1 + 1) && (!decide (len + 1 + 1 + 1 ≤ len + 1 + 1) && (decide ((len + 1 + 1 + 1) * 1 ≤ 140737488355328) && (decide (len + 1 + 1 + 1 ≤ 9223372036854775807) && (decide (0 + (len + 1 + 1) * 1 ≤ List.length x1) && (List.all x3 one && true && true))))) && true && true && true && true && true && true && true && (decide (len + 1 + 1 + 1 ≤ len + 1 + 1 + 1) && (!decide (len + 1 + 1 + 1 + 1 ≤ len + 1 + 1 + 1) && (decide ((len + 1 + 1 + 1 + 1) * 1 ≤ 140737488355328) && (decide (len + 1 + 1 + 1 + 1 ≤ 9223372036854775807) && (decide (0 + (len + 1 + 1 + 1) * 1 ≤ List.length x3) && (List.all x6 one && true && true))))) && true && true && true && true && true && true && true && (decide (len + 1 + 1 + 1 + 1 ≤ len + 1 + 1 + 1 + 1) && (!decide (len + 1 + 1 + 1 + 1 + 1 ≤ len + 1 + 1 + 1 + 1) && (decide ((len + 1 + 1 + 1 + 1 + 1) * 1 ≤ 140737488355328) && (decide (len + 1 + 1 + 1 + 1 + 1 ≤ 9223372036854775807) && (decide (0 + (len + 1 + 1 + 1 + 1) * 1 ≤ List.length x6) && (List.all x0 one && true && true))))) && true && true && true && true && true && true && true && (decide (len + 1 + 1 + 1 + 1 + 1 ≤ len + 1 + 1 + 1 + 1 + 1) && (!decide (len + 1 + 1 + 1 + 1 + 1 + 1 ≤ len + 1 + 1 + 1 + 1 + 1) && (decide ((len + 1 + 1 + 1 + 1 + 1 + 1) * 1 ≤ 140737488355328) && (decide (len + 1 + 1 + 1 + 1 + 1 + 1 ≤ 9223372036854775807) && (decide (0 + (len + 1 + 1 + 1 + 1 + 1) * 1 ≤ List.length x0) && (List.all x5 one && true && true))))) && true && true && true && true && true && true && true && (decide (len + 1 + 1 + 1 + 1 + 1 + 1 ≤ len + 1 + 1 + 1 + 1 + 1 + 1) && (!decide (len + 1 + 1 + 1 + 1 + 1 + 1 + 1 ≤ len + 1 + 1 + 1 + 1 + 1 + 1) && (decide ((len + 1 + 1 + 1 + 1 + 1 + 1 + 1) * 1 ≤ 140737488355328) && (decide (len + 1 + 1 + 1 + 1 + 1 + 1 + 1 ≤ 9223372036854775807) && (decide (0 + (len + 1 + 1 + 1 + 1 + 1 + 1) * 1 ≤ List.length x5) && (List.all x2 one && true && true))))) && true && true && true && true && true && true && true && (decide (len + 1 + 1 + 1 + 1 + 1 + 1 + 1 ≤ len + 1 + 1 + 1 + 1 + 1 + 1 + 1) && (!decide (len + 1 + 1 + 1 + 1 + 1 + 1 + 1 + 1 ≤ len + 1 + 1 + 1 + 1 + 1 + 1 + 1) && (decide ((len + 1 + 1 + 1 + 1 + 1 + 1 + 1 + 1) * 1 ≤ 140737488355328) && (decide (len + 1 + 1 + 1 + 1 + 1 + 1 + 1 + 1 ≤ 9223372036854775807) && (decide (0 + (len + 1 + 1 + 1 + 1 + 1 + 1 + 1) * 1 ≤ List.length x2) && (List.all x8 one && true && true))))) && true && true && true && true && true && true && true && true))))))) && true && true, ((XE.ret, (nn 6 ++ [some (Value.slice (ad 16) (len + 1 + 1 + 1 + 1 + 1 + 1 + 1 + 1) (len + 1 + 1 + 1 + 1 + 1 + 1 + 1 + 1))] ++ nn 12), ⟨(nd (.node (.node (.node (lr x4 1 false) (some (Ent.row [Value.int .u8 (IntKind.wrap .u8 (Int.fdiv (Int.fdiv (Int.fdiv (n : Int) 256) 256) 256))] 1 false)) .leaf) (some (Ent.row [Value.int .u8 (IntKind.wrap .u8 (Int.fdiv (n : Int) 256))] 1 false)) (lr [Value.int .u8 (IntKind.wrap .u8 (Int.fdiv (Int.fdiv (Int.fdiv (Int.fdiv (Int.fdiv (n : Int) 256) 256) 256) 256) 256))] 1 false)) (some (Ent.row [Value.int .u8 (IntKind.wrap .u8 (n : Int))] 1 false)) (.node (lr [Value.int .u8 (IntKind.wrap .u8 (Int.fdiv (Int.fdiv (Int.fdiv (Int.fdiv (n : Int) 256) 256) 256) 256))] 1 false) (some (Ent.row [Value.int .u8 (IntKind.wrap .u8 (Int.fdiv (Int.fdiv (n : Int) 256) 256))] 1 false)) (lr [Value.int .u8 (IntKind.wrap .u8 (Int.fdiv (Int.fdiv (Int.fdiv (Int.fdiv (Int.fdiv (Int.fdiv (n : Int) 256) 256) 256) 256) 256) 256))] 1 false))) (nd (nd (le (lr x8 1 false)) (l0)) (nd (l0) (l0)))), 17, 0⟩), []))) := by kernel_rfl
end Go.Xe
