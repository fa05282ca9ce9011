/- A part of the proof. -/
import Derived.Test.YtkhjbbigangbdaaGreatDoorM01
set_option linter.all false
namespace Go.Xe
open Go
section
variable {α : Place} {S : St} {w : World} {P : Program}
theorem run_choose_cap (need old : Nat) (e : TypeId) (w : World) :
 ∃ c, need ≤ c ∧ (choose (.appendCap need old e)).run P w = .ok c { w with drawn := w.drawn + 1 } := by
 refine ⟨(Question.appendCap need old e).cut (w.tape w.drawn (.appendCap need old e)), ?_, ?_⟩
 ·simp [Question.cut]
 ·simp [choose, Sem.run, Question.forced]
theorem byteVals_rel (l : List UInt8) : LRel α (byteVals l) (byteVals l) :=
 plain1_list α (by
  rw [List.all_eq_true]
  intro v hv
  simp only [byteVals, List.mem_map] at hv
  obtain ⟨b, _, rfl⟩ := hv
  rfl)
theorem valBytes_some : ∀ (l : List Value) (bs : List UInt8), valBytes l = some bs → ∃ ns : List Int, l = ns.map (Value.int .u8) ∧ bs = ns.map fun n => UInt8.ofNat n.toNat
 | [], bs, h => by simp only [valBytes] at h; cases h; exact ⟨[], rfl, rfl⟩
 | v :: r, bs, h => by
  unfold valBytes at h
  split at h
  ·rename_i heq; cases heq
  ·rename_i n r' heq
   injection heq with h1 h2
   subst h1; subst h2
   split at h
   ·rename_i l hl
    cases h
    obtain ⟨ns, e1, e2⟩ := valBytes_some _ _ hl
    exact ⟨n :: ns, by rw [e1]; rfl, by rw [e2]; rfl⟩
   ·cases h
  ·cases h
theorem ints_rel {ns : List Int} {l : List Value} (h : LRel α (ns.map (Value.int .u8)) l) : l = ns.map (Value.int .u8) := by
 apply List.ext_getElem?
 intro i
 by_cases hi : i < ns.length
 ·have h1 : (ns.map (Value.int .u8))[i]? = some (.int .u8 ns[i]) := by simp [hi]
  obtain ⟨v', e1, e2⟩ := h.get h1
  cases e2
  rw [e1, h1]
 ·rw [List.getElem?_eq_none (by have := h.1; simp at this; omega), List.getElem?_eq_none (by simpa using hi)]
theorem foldl_push (ns : List Int) : ∀ (s : ByteArray), ns.foldl (fun r n => r.push (UInt8.ofNat n.toNat)) s = s ++ ⟨(ns.map fun n => UInt8.ofNat n.toNat).toArray⟩ := by
 induction ns with
 | nil => intro s; apply ByteArray.ext; simp [ByteArray.data_append]
 | cons n ns ih =>
  intro s
  rw [List.foldl_cons, ih]
  apply ByteArray.ext
  apply Array.ext'
  simp [ByteArray.data_append, ByteArray.data_push]
theorem freeze_heap (w : World) (b n : Nat) : (w.freeze ⟨b, n, none⟩ 1).heap.size = w.heap.size ∧ (∀ k, k ≠ b → (w.freeze ⟨b, n, none⟩ 1).heap[k]? = w.heap[k]?) ∧
 ∀ c t fr, w.heap[b]? = some (.cells c t fr) → ∃ fr' : Nat × Nat, (w.freeze ⟨b, n, none⟩ 1).heap[b]? = some (.cells c t fr') ∧ (Free c.size fr → n = c.size → Free c.size fr') := by
 refine ⟨by simp [World.freeze], fun k hk => ?_, fun c t fr hb => ?_⟩
 ·simp only [World.freeze, Nat.one_ne_zero, if_false]
  rw [Array.getElem?_modify, if_neg (Ne.symm hk)]
 ·obtain ⟨lo, hi⟩ := fr
  refine ⟨if lo == hi then (n, n + 1) else (min lo n, max hi (n + 1)), ?_, ?_⟩
  ·simp only [World.freeze, Nat.one_ne_zero, if_false]
   rw [Array.getElem?_modify]
   simp [hb]
  ·rintro ⟨h1, h2⟩ rfl
   by_cases he : lo = hi
   ·subst he
    simp only [beq_self_eq_true, if_true]
    exact ⟨fun o ho => by simp only; omega, by simp⟩
   ·have : (lo == hi) = false := by simpa using he
    rw [this]
    simp only [Bool.false_eq_true, if_false]
    simp only at h1 h2
    have hlo : c.size ≤ lo := by
     rcases Nat.lt_or_ge lo c.size with h | h
     ·exact absurd ⟨Nat.le_refl _, by omega⟩ (h1 lo h)
     ·exact h
    refine ⟨fun o ho => ?_, ?_⟩
    ·simp only; omega
    ·simp only; omega
theorem xstringish {t : TypeId} {e : TypeId} {b o len cap : Nat} {cs : List Value} {esz : Nat} {x' : Value} (hd : P.underlying t = some (.slice e)) (he : P.underlying e = some (.int .u8))
 (hg : S.heap.get b = some (.row cs esz false)) (h : Rel α S w) (hr : VRel α (.slice (some ⟨b, o, none⟩) len cap) x') (hcap : 0 < cap) :
 ∃ β w' v', (convert t t x').run P w = .ok v' w' ∧ Next α S w β S w' ∧ VRel β (.slice (some ⟨b, o, none⟩) len cap) v' := by
 have conv : ∀ (a : Addr) (n m : Nat), (convert t t (.slice (some a) n m)).run P w = .ok (.slice (some a) n m) (match w.shape? a.block with | some (_, k) => w.freeze ⟨a.block, k, none⟩ 1 | none => w) := by
  intro a n m
  simp only [convert, Sem.run_bind, run_underlying hd, Result.andThen, run_underlying he, beq_self_eq_true]
  have hm : (markStringish a).run P w = .ok () (match w.shape? a.block with | some (_, k) => w.freeze ⟨a.block, k, none⟩ 1 | none => w) := by
   simp only [markStringish, Sem.run_bind, shape, Sem.run, Result.andThen]
   cases w.shape? a.block with
   | none => rfl
   | some p => rfl
  simp only [hm]
  rfl
 rcases slice_inv hr with ⟨l, cap', hl, h1, h2, h3, rfl⟩ | ⟨a', rfl, rfl, rfl⟩
 ·obtain ⟨l', hl', hent⟩ := h.ent b _ hg
  rw [hl] at hl'; cases hl'
  obtain ⟨q0, c, ty, fr, q1, q2, q3, q4, q5⟩ := hent
  have hsh : w.shape? l.blk = some (ty, c.size) := by simp [World.shape?, q1]
  have hc := conv ⟨l.blk, l.off + o, none⟩ len cap'
  simp only [hsh] at hc
  obtain ⟨f1, f2, f3⟩ := freeze_heap w l.blk c.size
  obtain ⟨fr', g1, g2⟩ := f3 c ty fr q1
  refine ⟨α, _, _, hc, Next.same (Next.write (e := .row cs esz false) h hg rfl hl rfl f2 f1 ⟨?_, ?_, ?_⟩ ⟨q0, c, ty, fr', g1, q2, q3, fun _ => g2 (q4 rfl) rfl, q5⟩) (fun i e hi => ?_) rfl rfl, .slice b o len cap cap' l hl h1 h2 h3⟩
  ·simp [World.freeze]
  ·simp [World.freeze]
  ·simp [World.freeze]
  ·simp only [St.put]
   rw [PT.get_set]
   by_cases hib : i = b
   ·subst hib; rw [if_pos rfl]; rw [hg] at hi; exact hi
   ·rw [if_neg hib]; exact hi
 ·exact absurd hcap (Nat.lt_irrefl _)
theorem xconvert_sound (h : Rel α S w) {src dst : TypeId} {x x' v : Value} {S' : St} (hx : xconvert P S src dst x = some (v, S')) (hr : VRel α x x') :
 ∃ β w' v', (convert src dst x').run P w = .ok v' w' ∧ Next α S w β S' w' ∧ VRel β v v' := by
 unfold xconvert at hx
 split at hx
 ·rename_i d k k' n hs hd; cases hx; cases hr
  refine ⟨α, w, _, ?_, .refl h, .int _ _⟩
  simp only [convert, Sem.run_bind, run_underlying hs, run_underlying hd, Result.andThen]
  rfl
 ·rename_i d k n hs hd; cases hx; cases hr
  refine ⟨α, w, _, ?_, .refl h, .string _⟩
  simp only [convert, Sem.run_bind, run_underlying hs, run_underlying hd, Result.andThen]
  rfl
 ·rename_i d s hs hd; cases hx; cases hr
  refine ⟨α, w, _, ?_, .refl h, .string _⟩
  simp only [convert, Sem.run_bind, run_underlying hs, run_underlying hd, Result.andThen]
  rfl
 ·rename_i d e s hs hd
  cases hr
  split at hx
  ·rename_i he
   split at hx
   ·rename_i S1 hrow
    cases hx
    obtain ⟨c, hc, hcap⟩ := run_choose_cap (P := P) s.size 0 e w
    have hbv : s.data.map (fun b => Value.int .u8 b.toNat) = (byteVals s.data.toList).toArray := by
     apply Array.ext'; simp [byteVals]
    have hlen : (byteVals s.data.toList).length = s.size := by simp [byteVals]
    let spare : List Value := List.replicate (c - s.size) (Value.int .u8 0)
    let cells : Array Value := (byteVals s.data.toList ++ spare).toArray
    have hcs : cells.size = c := by simp only [cells, spare, List.size_toArray, List.length_append, List.length_replicate, hlen]; omega
    let w1 : World := { w with heap := w.heap.push (.cells cells e), drawn := w.drawn + 1 }
    let w' : World := w1.freeze ⟨w.heap.size, c, none⟩ 1
    have hheap : w'.heap = w.heap.push (.cells cells e (c, c + 1)) := by
     simp only [w', w1, World.freeze, Nat.one_ne_zero, if_false]
     apply Array.ext
     ·simp
     ·intro i h1 h2
      simp only [Array.getElem_modify, Array.getElem_push]
      simp only [Array.size_push] at h2
      by_cases hi : i = w.heap.size
      ·subst hi; simp
      ·have : i < w.heap.size := by omega
       simp [this, Ne.symm hi]
    refine ⟨_, w', .slice (some ⟨w.heap.size, 0, none⟩) s.size c, ?_, h.row hrow (byteVals_rel _) spare e (c, c + 1) hheap ⟨rfl, rfl, rfl⟩ ⟨by
     intro o ho; simp only [spare, List.length_replicate, hlen] at ho; simp only; omega, by simp⟩, ?_⟩
    ·simp only [convert, Sem.run_bind, run_underlying hs, run_underlying hd, Result.andThen, run_underlying he, Conv.stringToBytes, hcap, hbv]
     have hrep : (byteVals s.data.toList).toArray ++ Array.replicate (c - s.size) (Value.int .u8 0) = cells := by
      apply Array.ext'; simp [cells, spare]
     rw [hrep]
     have hnew : (newRow e cells).run P { w with drawn := w.drawn + 1 } = .ok ⟨w.heap.size, 0, none⟩ w1 := rfl
     simp only [hnew]
     have hm : (markStringish ⟨w.heap.size, 0, none⟩).run P w1 = .ok () w' := by
      simp only [markStringish, Sem.run_bind, shape, Sem.run, Result.andThen]
      have : w1.shape? w.heap.size = some (e, c) := by simp [World.shape?, w1, hcs]
      simp only [this]
      rfl
     simp only [hm]
     rfl
    ·have := VRel.slice (α := α.upd S.next ⟨w.heap.size, 0, (byteVals s.data.toList).length + spare.length, 1⟩) S.next 0 s.size s.size c _ (Place.upd_same _ _ _) (Nat.le_refl _) hc
      (by simp only [spare, List.length_replicate, hlen]; omega)
     simpa using this
   ·cases hx
  ·cases hx
 ·rename_i e0 e b o len cap hs hd
  split at hx
  ·rename_i heq
   have hcp := heq.2
   have heq1 := heq.1
   subst heq1
   split at hx
   ·rename_i he
    split at hx
    ·rename_i cs esz hg
     cases hx
     exact xstringish hd he hg h hr hcp
    ·cases hx
   ·cases hx
  ·cases hx
 ·rename_i e hs hd
  obtain ⟨_, _, rfl⟩ := nil_slice_inv hr
  split at hx
  ·rename_i he
   cases hx
   refine ⟨α, w, _, ?_, .refl h, .string _⟩
   simp only [convert, Sem.run_bind, run_underlying hs, run_underlying hd, Result.andThen, run_underlying he]
   rfl
  ·cases hx
 ·rename_i e b o len cap hs hd
  split at hx
  ·rename_i he
   split at hx
   ·rename_i h0
    cases hx
    subst h0
    obtain ⟨a', n', c', rfl, hn, hl⟩ := isNone_of_rel_slice hr
    subst hl
    cases a' with
    | none => simp at hn
    | some a =>
     refine ⟨α, w, _, ?_, .refl h, .string _⟩
     simp only [convert, Sem.run_bind, run_underlying hs, run_underlying hd, Result.andThen, run_underlying he, Conv.bytesToString]
     have hz : (loadCells a 0).run P w = .ok #[] w := rfl
     simp only [hz]
     rfl
   ·rename_i h0
    split at hx
    ·rename_i cs esz ro hg
     split at hx
     ·rename_i hesz
      split at hx
      ·rename_i l hl
       split at hx
       ·rename_i bs hbs
        cases hx
        obtain ⟨ns, rfl, rfl⟩ := valBytes_some _ _ hbs
        rcases slice_inv hr with ⟨loc, cap', hloc, h1, h2, h3, rfl⟩ | ⟨a', rfl, rfl, rfl⟩
        ·obtain ⟨vs', g1, g2, g3⟩ := h.loadN (P := P) hloc hl
         have := ints_rel g1
         subst this
         refine ⟨α, w, _, ?_, .refl h, .string _⟩
         simp only [convert, Sem.run_bind, run_underlying hs, run_underlying hd, Result.andThen, run_underlying he, Conv.bytesToString, g3]
         rw [List.forIn_toArray, run_forIn_bytes _ (by intro n r; simp [Sem.run_pure])]
         rw [foldl_push]
         simp only [Sem.run_pure, Sem.run_bind, Result.andThen]
         congr 2
        ·exact absurd rfl h0
       ·cases hx
      ·cases hx
     ·cases hx
    ·cases hx
  ·cases hx
 ·cases hx
theorem firstCells_sound (h : Rel α S w) {size n m : Nat} {x x' : Value} {l : List Value} (hx : xfirst S size n x = some l) (hr : VRel α x x') (hm : xlenOf x = some m) (hn : n ≤ m) :
 ∃ l', (Builtin.firstCells size n x').run P w = .ok l'.toArray w ∧ LRel α l l' ∧ l.length = n * size := by
 unfold xfirst at hx
 split at hx
 ·rename_i h0
  cases hx
  subst h0
  refine ⟨[], ?_, .nil _, by simp⟩
  unfold xlenOf at hm
  split at hm
  ·rename_i a len cap
   obtain ⟨a', n', c', rfl, _, _⟩ := isNone_of_rel_slice hr
   cases a' with
   | none => rfl
   | some a => simp only [Builtin.firstCells, Nat.zero_mul]; rfl
  ·rename_i s
   cases hr
   simp only [Builtin.firstCells]
   have : (s.extract 0 0).data = #[] := by apply Array.ext'; simp [ByteArray.data_extract]
   rw [this]
   simp [Sem.run_pure]
  ·cases hm
 ·rename_i h0
  split at hx
  ·rename_i b o len cap
   simp only [xlenOf] at hm; cases hm
   rcases slice_inv hr with ⟨loc, cap', hloc, h1, h2, h3, rfl⟩ | ⟨a', rfl, rfl, rfl⟩
   ·obtain ⟨vs', g1, g2, g3⟩ := h.loadN (P := P) hloc hx
    exact ⟨vs', g3, g1, g2⟩
   ·omega
  ·rename_i s
   split at hx
   ·rename_i hs
    cases hx; cases hr
    simp only [xlenOf] at hm; cases hm
    refine ⟨byteVals (s.data.toList.take n), ?_, byteVals_rel _, by simp [byteVals] at hn ⊢; rw [hs]; omega⟩
    simp only [Builtin.firstCells]
    rw [Sem.run_pure]
    congr 1
    apply Array.ext'
    simp [byteVals, ByteArray.data_extract]
   ·cases hx
  ·cases hx
theorem lenOf_sound {x x' : Value} {m : Nat} (hm : xlenOf x = some m) (hr : VRel α x x') : (Builtin.lenOf x').run P w = .ok m w := by
 unfold xlenOf at hm
 split at hm
 ·obtain ⟨a', n', c', rfl, _, hl⟩ := isNone_of_rel_slice hr
  cases hm
  simp only [Builtin.lenOf, hl]; rfl
 ·rename_i s
  cases hr; cases hm
  simp only [Builtin.lenOf]
  have : s.data.toList.length = s.size := by simp
  rw [this]; rfl
 ·cases hm
theorem growBy_le : ∀ (r c n : Nat), 256 ≤ c → c ≤ 2 * n → Builtin.growBy n r c ≤ 2 * n
 | 0, c, n, _, h => h
 | r + 1, c, n, h0, h => by
  simp only [Builtin.growBy]
  split
  ·exact h
  ·exact growBy_le r _ n (by omega) (by omega)
theorem nextslicecap_le {need old : Nat} (h : old < need) : Builtin.nextslicecap need old ≤ 2 * need := by
 unfold Builtin.nextslicecap
 split
 ·omega
 ·split
  ·omega
  ·exact growBy_le 4 old need (by omega) (by omega)
theorem bytes_le {need cap bytes : Nat} (h : cap ≤ 2 * need) (hb : need * bytes ≤ 2 ^ 47) : ¬ cap * bytes > 2 ^ 48 := by
 have h1 : cap * bytes ≤ 2 * need * bytes := Nat.mul_le_mul_right _ h
 have h2 : 2 * need * bytes = 2 * (need * bytes) := Nat.mul_assoc _ _ _
 omega
theorem append_grow {t u elem : TypeId} {du : TypeDesc} {size bytes n sLen sCap : Nat} {z s' x' : Value} {base : Option Addr} {old new : List Value} (ty : TypeId)
 (hu : P.underlying t = some (.slice elem)) (hu2 : P.underlying u = some du) (hdu : ∀ k, du ≠ .int k) (hs : sizeT P elem = some size) (hb : bytesT P elem = some bytes) (hz : zeroT P elem = some z)
 (hsz : size ≠ 0) (hzs : z.cells.size = size) (hss : s' = .slice base sLen sCap) (hlen : (Builtin.lenOf x').run P w = .ok n w) (hneed : ¬ sLen + n ≤ sCap)
 (hmax : ((sLen + n : Nat) : Int) ≤ IntKind.i64.max) (hbytes : (sLen + n) * bytes ≤ 2 ^ 47)
 (hold : (Builtin.firstCells size sLen s').run P { w with drawn := w.drawn + 1 } = .ok old.toArray { w with drawn := w.drawn + 1 })
 (hnew : (Builtin.firstCells size n x').run P { w with drawn := w.drawn + 1 } = .ok new.toArray { w with drawn := w.drawn + 1 }) :
 ∃ (c : Nat) (w' : World) (spare : List Value), (Builtin.append_ #[t, u] ty #[s', x']).run P w = .ok (.slice (some ⟨w.heap.size, 0, none⟩) (sLen + n) c) w' ∧ sLen + n ≤ c ∧ spare.length = (c - (sLen + n)) * size ∧
  w'.heap = w.heap.push (.cells (old ++ new ++ spare).toArray elem) ∧ Alike0 w w' := by
 obtain ⟨i, hi, hib⟩ := bytesT_info hb
 obtain ⟨c, hc, hcap⟩ := run_choose_cap (P := P) (sLen + n) sCap elem w
 let w1 : World := { w with drawn := w.drawn + 1 }
 let spare := zerosL z.cells.toList (c - (sLen + n))
 refine ⟨c, { w1 with heap := w1.heap.push (.cells (old ++ new ++ spare).toArray elem) }, spare, ?_, hc, by simp only [spare, length_zerosL, Array.length_toList, hzs], rfl, ⟨rfl, rfl, rfl⟩⟩
 subst hss
 have hzeros : (match du with | .int _ => true | _ => false) = false := by cases du <;> first | rfl | exact absurd rfl (hdu _)
 have hcond : ¬ (((sLen + n : Nat) : Int) > IntKind.i64.max ∧ (false = true ∨ i.bytes = 0)) := by omega
 have hgrow : ¬ Builtin.nextslicecap (sLen + n) sCap * i.bytes > 2 ^ 48 := by
  rw [hib]; exact bytes_le (nextslicecap_le (by omega)) hbytes
 have hrest : Builtin.zeroCells z.cells (c - (sLen + n)) = spare.toArray := zeros_eq _ _
 have e1 : (#[t, u] : Array TypeId)[0]? = some t := rfl
 have e2 : (#[t, u] : Array TypeId)[1]? = some u := rfl
 have e3 : (#[Value.slice base sLen sCap, x'] : Array Value)[0]? = some (.slice base sLen sCap) := rfl
 have e4 : (#[Value.slice base sLen sCap, x'] : Array Value)[1]? = some x' := rfl
 unfold Builtin.append_
 simp only [e1, e2, e3, e4, Sem.run_bind, run_underlying hu, Result.andThen, run_sizeOf hs, run_underlying hu2, Sem.run_pure, hzeros, Bool.false_eq_true, if_false, hlen, if_neg hneed]
 rw [run_info hi]
 simp only []
 rw [if_neg (fun h => by omega), Sem.run_bind, run_info hi]
 simp only [Result.andThen]
 rw [if_neg hgrow, Sem.run_bind, hcap]
 simp only [Result.andThen]
 rw [Sem.run_bind, run_info hi]
 simp only [Result.andThen]
 rw [Sem.run_bind, run_askRoom]
 simp only [Result.andThen]
 rw [Sem.run_bind, hold]
 simp only [Result.andThen]
 rw [Sem.run_bind]
 simp only [Bool.not_false, if_true]
 rw [hnew]
 simp only [Result.andThen]
 rw [Sem.run_bind, run_zero hz]
 simp only [Result.andThen, hrest]
 have happ : old.toArray ++ new.toArray ++ spare.toArray = (old ++ new ++ spare).toArray := by simp
 rw [happ]
 rfl
theorem append_fits {t u elem : TypeId} {du : TypeDesc} {size n sLen sCap : Nat} {s' x' : Value} {base : Option Addr} {new : List Value} (ty : TypeId)
 (hu : P.underlying t = some (.slice elem)) (hu2 : P.underlying u = some du) (hdu : ∀ k, du ≠ .int k) (hs : sizeT P elem = some size)
 (hss : s' = .slice base sLen sCap) (hlen : (Builtin.lenOf x').run P w = .ok n w) (hneed : sLen + n ≤ sCap)
 (hnew : (Builtin.firstCells size n x').run P w = .ok new.toArray w) {w' : World}
 (hst : ∀ a, base = some a → (storeCells (a.add (sLen * size)) new).run P w = .ok () w') (hno : base = none → w' = w) :
 (Builtin.append_ #[t, u] ty #[s', x']).run P w = .ok (.slice base (sLen + n) sCap) w' := by
 subst hss
 have hzeros : (match du with | .int _ => true | _ => false) = false := by cases du <;> first | rfl | exact absurd rfl (hdu _)
 have e1 : (#[t, u] : Array TypeId)[0]? = some t := rfl
 have e2 : (#[t, u] : Array TypeId)[1]? = some u := rfl
 have e3 : (#[Value.slice base sLen sCap, x'] : Array Value)[0]? = some (.slice base sLen sCap) := rfl
 have e4 : (#[Value.slice base sLen sCap, x'] : Array Value)[1]? = some x' := rfl
 unfold Builtin.append_
 simp only [e1, e2, e3, e4, Sem.run_bind, run_underlying hu, Result.andThen, run_sizeOf hs, run_underlying hu2, Sem.run_pure, hzeros, Bool.false_eq_true, if_false, hlen, if_pos hneed]
 simp only [Bool.not_false, if_true]
 rw [hnew]
 simp only [Result.andThen]
 cases base with
 | none => rw [hno rfl]; rfl
 | some a =>
  simp only []
  rw [Sem.run_bind, hst a rfl]
  rfl
theorem storeCells_nil (a : Addr) (w : World) : (storeCells a []).run P w = .ok () w := rfl
theorem St.loadN_of (S : St) {b o n : Nat} {cs : List Value} {esz : Nat} {ro : Bool} (hg : S.heap.get b = some (.row cs esz ro)) (h : o + n ≤ cs.length) :
 S.loadN b o n = some ((cs.drop o).take n) := by
 unfold St.loadN; rw [hg]; simp only; rw [if_pos h]
theorem xappend_sound (h : Rel α S w) {ts : Array TypeId} {ty : TypeId} {args : List Value} {args' : Array Value} {v : Value} {S' : St} (hx : xappend P S ts.toList args = some (v, S')) (hr : LRel α args args'.toList) :
 ∃ β w' v', (Builtin.append_ ts ty args').run P w = .ok v' w' ∧ Next α S w β S' w' ∧ VRel β v v' := by
 unfold xappend at hx
 split at hx
 case h_2 => cases hx
 rename_i t u s x hts
 obtain rfl : ts = #[t, u] := by apply Array.ext'; simpa using hts
 obtain ⟨s', x', rfl, hrs, hrx⟩ : ∃ s' x', args' = #[s', x'] ∧ VRel α s s' ∧ VRel α x x' := by
  have hl := hr.1
  obtain ⟨l⟩ := args'
  match l, hl with
  | [a, b], _ => exact ⟨a, b, rfl, hr.2 0 _ _ rfl rfl, hr.2 1 _ _ rfl rfl⟩
 split at hx
 ·cases hx
 ·rename_i elem du hnd hu hu2
  have hdu : ∀ k, du ≠ .int k := fun k e => hnd k e
  split at hx
  case h_2 => cases hx
  rename_i size bytes z n hs hb hz hxl
  split at hx
  ·cases hx
  rename_i hc
  have hsz : size ≠ 0 := fun e => hc (.inl e)
  have hzs : z.cells.size = size := by
   rcases Nat.decEq z.cells.size size with e | e
   ·exact absurd (.inr e) hc
   ·exact e
  split at hx
  case h_2 => cases hx
  rename_i new hnew
  have hlen := lenOf_sound (P := P) (w := w) hxl hrx
  let w1 : World := { w with drawn := w.drawn + 1 }
  have h1 : Rel α S w1 := h.of_heap rfl
  obtain ⟨new', hn1, hn2, hn3⟩ := firstCells_sound (P := P) h hnew hrx hxl (Nat.le_refl _)
  obtain ⟨newg, hg1, hg2, hg3⟩ := firstCells_sound (P := P) h1 hnew hrx hxl (Nat.le_refl _)
  split at hx
  ·
   obtain ⟨_, _, rfl⟩ := nil_slice_inv hrs
   split at hx
   ·rename_i h0
    cases hx
    subst h0
    refine ⟨α, w, _, append_fits ty hu hu2 hdu hs rfl hlen (by omega) hn1 (fun a e => by cases e) (fun _ => rfl), .refl h, .sliceNil⟩
   ·rename_i h0
    split at hx
    ·rename_i hbm
     split at hx
     ·rename_i S1 hrow
      cases hx
      obtain ⟨c, w', spare, g1, g2, g3, g4, g5⟩ := append_grow (P := P) (w := w) (base := none) (sLen := 0) (sCap := 0) ty (old := []) hu hu2 hdu hs hb hz hsz hzs rfl hlen (by omega) (by simpa using hbm.2) (by simpa using hbm.1) rfl hg1
      have hl2 : newg.length = n * size := by rw [← hg2.1]; exact hg3
      refine ⟨_, w', _, g1, h.row hrow hg2 spare elem (0, 0) (by simpa using g4) g5 ⟨fun o _ => by simp, Nat.le_refl _⟩, ?_⟩
      have hnc : n ≤ c := by omega
      have := VRel.slice (α := α.upd S.next ⟨w.heap.size, 0, newg.length + spare.length, size⟩) S.next 0 n n c _ (Place.upd_same _ _ _) (Nat.le_refl _) hnc
       (by
        simp only [g3, hl2, Nat.zero_add]
        have e : n + (c - n) = c := by omega
        have := Nat.add_mul n (c - n) size
        rw [e] at this
        omega)
      simpa using this
     ·cases hx
    ·cases hx
  ·
   rename_i b o len cap
   split at hx
   case h_2 => cases hx
   rename_i cs esz ro hg
   split at hx
   ·cases hx
   rename_i hcc
   have hesz : esz = size := by
    rcases Nat.decEq esz size with e | e
    ·exact absurd (.inl e) hcc
    ·exact e
   have hro : ro = false := by
    cases ro
    ·rfl
    ·exact absurd (.inr (.inl rfl)) hcc
   have hlc : len ≤ cap := by
    have : ¬ len > cap := fun e => hcc (.inr (.inr e))
    omega
   subst hro
   split at hx
   ·rename_i h0
    cases hx
    subst h0
    have hnil : new' = [] := by have := hn2.1; rw [hn3] at this; simp at this; exact List.eq_nil_of_length_eq_zero (by omega)
    subst hnil
    rcases slice_inv hrs with ⟨l, cap', hl, h2, h3, h4, rfl⟩ | ⟨a', rfl, rfl, rfl⟩
    ·exact ⟨α, w, _, append_fits ty hu hu2 hdu hs rfl hlen (by omega) hn1 (fun a e => storeCells_nil _ _) (fun _ => rfl), .refl h, .slice b o len cap cap' l hl h2 h3 h4⟩
    ·exact ⟨α, w, _, append_fits ty hu hu2 hdu hs rfl hlen (by omega) hn1 (fun a e => storeCells_nil _ _) (fun _ => rfl), .refl h, .sliceEnd _ _⟩
   ·rename_i h0
    split at hx
    ·
     rename_i hfit
     split at hx
     ·rename_i S1 hst
      cases hx
      rcases slice_inv hrs with ⟨l, cap', hl, h2, h3, h4, rfl⟩ | ⟨a', rfl, rfl, rfl⟩
      ·obtain ⟨w', e1, e2⟩ := h.storeN (P := P) hl hn2 hst
       refine ⟨α, w', _, append_fits ty hu hu2 hdu hs rfl hlen (by omega) hn1 (fun a e => ?_) (fun e => by cases e), e2, .slice b o (len + n) cap cap' l hl hfit h3 h4⟩
       cases e
       rw [add_eq, Nat.add_assoc]
       exact e1
      ·omega
     ·cases hx
    ·rename_i hfit
     split at hx
     ·rename_i hbm
      obtain ⟨hb1, hb2, hold⟩ := hbm
      split at hx
      ·rename_i S1 hrow
       cases hx
       obtain ⟨loc, hloc, hent⟩ := h.ent _ _ hg
       obtain ⟨hesz2, c0, e0, fr, hblk, hroom, hcl, hfr, hcells⟩ := hent
       have hfr := hfr rfl
       have hk := Next.kill h b
       have grow : ∀ (base : Option Addr) (sCap : Nat) (old' : List Value) , VRel α (.slice (some ⟨b, o, none⟩) len cap) (.slice base len sCap) → ¬ len + n ≤ sCap →
        (Builtin.firstCells size len (.slice base len sCap)).run P w1 = .ok old'.toArray w1 → LRel α ((cs.drop o).take (len * size)) old' →
        ∃ β w' v', (Builtin.append_ #[t, u] ty #[.slice base len sCap, x']).run P w = .ok v' w' ∧ Next α S w β S' w' ∧ VRel β (.slice (some ⟨S.next, 0, none⟩) (len + n) (len + n)) v' := by
        intro base sCap old' _ hno hrun hro
        obtain ⟨c, w', spare, g1, g2, g3, g4, g5⟩ := append_grow (P := P) (w := w) ty hu hu2 hdu hs hb hz hsz hzs rfl hlen hno hb2 hb1 hrun hg1
        have hl1 : old'.length = len * size := by rw [← hro.1]; simp; omega
        have hl2 : newg.length = n * size := by rw [← hg2.1]; exact hg3
        refine ⟨_, w', _, g1, hk.trans (hk.rel.row hrow (hro.append hg2) spare elem (0, 0) g4 g5 ⟨fun o _ => by simp, Nat.le_refl _⟩), ?_⟩
        have := VRel.slice (α := α.upd S.next ⟨w.heap.size, 0, (old' ++ newg).length + spare.length, size⟩) S.next 0 (len + n) (len + n) c _ (Place.upd_same _ _ _) (Nat.le_refl _) g2
         (by
          simp only [g3, hl1, hl2, List.length_append, Nat.zero_add]
          have e : len + n + (c - (len + n)) = c := by omega
          have t1 := Nat.add_mul (len + n) (c - (len + n)) size
          have t2 := Nat.add_mul len n size
          rw [e] at t1
          omega)
        exact this
       rcases slice_inv hrs with ⟨l, cap', hl, h2, h3, h4, rfl⟩ | ⟨a', rfl, rfl, rfl⟩
       ·rw [hloc] at hl; cases hl
        by_cases hin : len + n ≤ cap'
        ·
         have hnl : new'.length = n * size := by rw [← hn2.1]; exact hn3
         have hmul : (len + n) * size ≤ cap' * size := Nat.mul_le_mul_right _ hin
         rw [Nat.add_mul] at hmul
         rw [← hesz2, hesz] at h4
         have hone : new'.all one = true := by
          have : ((cs.drop o).take (len * size) ++ new).all one = true := by
           unfold St.row at hrow
           split at hrow
           ·assumption
           ·cases hrow
          rw [List.all_append, Bool.and_eq_true] at this
          exact hn2.all_one this.2
         obtain ⟨w', c', e1, e2, e3, e4, e5, e6, e7⟩ := run_storeCells (P := P) loc.blk (loc.off + (o + len * size)) e0 fr new' 0 c0 w hblk (by omega) hfr.1 hone
         rw [row_next hrow]
         refine ⟨_, w', _, append_fits ty hu hu2 hdu hs rfl hlen hin hn1 (fun a e => ?_) (fun e => by cases e),
          Next.renew h hg rfl hloc _ rfl ⟨loc.blk, loc.off + o, loc.room - o, size⟩ rfl e3 e2 e7 ⟨rfl, c', e0, fr, e4, by simp only; omega, ?_, fun _ => by rw [e5]; exact hfr, ?_⟩, ?_⟩
         ·cases e
          rw [add_eq, Nat.add_assoc]
          exact e1
         ·simp only [List.length_append, List.length_take, List.length_drop, hn3]; omega
         ·intro j v hj
          simp only
          rw [e6]
          by_cases hjl : j < len * size
          ·rw [List.getElem?_append_left (by simp; omega), List.getElem?_take, if_pos hjl, List.getElem?_drop] at hj
           rw [if_neg (by omega)]
           obtain ⟨v', f1, f2⟩ := hcells _ _ hj
           exact ⟨v', by rw [← f1]; congr 1; omega, f2.mono (h.ext _)⟩
          ·rw [List.getElem?_append_right (by simp; omega)] at hj
           have hmin : ((cs.drop o).take (len * size)).length = len * size := by simp; omega
           rw [hmin] at hj
           obtain ⟨v', f1, f2⟩ := hn2.get hj
           have hlt : j - len * size < new'.length := (List.getElem?_eq_some_iff.1 f1).1
           rw [if_pos (by omega)]
           exact ⟨v', by rw [← f1]; congr 1; omega, f2.mono (h.ext _)⟩
         ·have := VRel.slice (α := α.upd S.next ⟨loc.blk, loc.off + o, loc.room - o, size⟩) S.next 0 (len + n) (len + n) cap' _ (Place.upd_same _ _ _) (Nat.le_refl _) hin
           (by simp only; omega)
          simpa using this
        ·obtain ⟨old', f1, f2, f3⟩ := h1.loadN (P := P) hloc (S.loadN_of hg hold)
         exact grow _ _ old' hrs hin f3 f1
       ·exact grow _ _ [] hrs (by omega) (by simp only [Builtin.firstCells, Nat.zero_mul]; rfl) (by simp only [Nat.zero_mul, List.take_zero]; exact .nil _)
      ·cases hx
     ·cases hx
  ·cases hx
 ·cases hx
end
section
variable {α : Place} {S : St} {w : World} {P : Program}
theorem two_inv {a b : Value} {args : Array Value} (h : LRel α [a, b] args.toList) : ∃ a' b', args = #[a', b'] ∧ VRel α a a' ∧ VRel α b b' := by
 have hl := h.1
 obtain ⟨l⟩ := args
 match l, hl with
 | [x, y], _ => exact ⟨x, y, rfl, h.2 0 _ _ rfl rfl, h.2 1 _ _ rfl rfl⟩
theorem one_inv {a : Value} {args : Array Value} (h : LRel α [a] args.toList) : ∃ a', args = #[a'] ∧ VRel α a a' := by
 have hl := h.1
 obtain ⟨l⟩ := args
 match l, hl with
 | [x], _ => exact ⟨x, rfl, h.2 0 _ _ rfl rfl⟩
theorem head_of {t : TypeId} {ts : Array TypeId} {r : List TypeId} (h : ts.toList = t :: r) : ts[0]? = some t := by
 obtain ⟨l⟩ := ts
 simp at h; subst h; rfl
theorem xcopy_sound (h : Rel α S w) {ts : Array TypeId} {ty : TypeId} {args : List Value} {args' : Array Value} {v : Value} {S' : St} (hx : xcopy P S ts.toList args = some (v, S')) (hr : LRel α args args'.toList) :
 ∃ β w' v', (Builtin.copy_ ts ty args').run P w = .ok v' w' ∧ Next α S w β S' w' ∧ VRel β v v' := by
 unfold xcopy at hx
 split at hx
 case h_2 => cases hx
 rename_i t r d x hts
 obtain ⟨d', x', rfl, hrd, hrx⟩ := two_inv hr
 have e1 := head_of hts
 have e3 : (#[d', x'] : Array Value)[0]? = some d' := rfl
 have e4 : (#[d', x'] : Array Value)[1]? = some x' := rfl
 split at hx
 case h_2 => cases hx
 rename_i elem hu
 split at hx
 ·rename_i size n a b hs hn
  obtain ⟨_, _, rfl⟩ := nil_slice_inv hrd
  split at hx
  ·cases hx
  split at hx
  ·rename_i l hl
   cases hx
   obtain ⟨l', g1, g2, g3⟩ := firstCells_sound (P := P) h hl hrx hn (by omega)
   refine ⟨α, w, _, ?_, .refl h, .int _ _⟩
   unfold Builtin.copy_
   simp only [e1, e3, e4, Sem.run_bind, run_underlying hu, Result.andThen, lenOf_sound (P := P) (w := w) hn hrx, run_sizeOf hs]
   rw [show Nat.min n 0 = min n 0 from rfl, g1]
   simp [goInt, Sem.run_pure]
  ·cases hx
 ·rename_i size n b o len cap hs hn
  split at hx
  ·cases hx
  split at hx
  ·rename_i l hl
   obtain ⟨l', g1, g2, g3⟩ := firstCells_sound (P := P) h hl hrx hn (Nat.min_le_left _ _)
   split at hx
   ·rename_i h0
    cases hx
    have hnil : l' = [] := by
     have := g2.1; rw [g3, h0] at this; simp at this; exact List.eq_nil_of_length_eq_zero (by omega)
    subst hnil
    obtain ⟨a', n', c', rfl, _, hl'⟩ := isNone_of_rel_slice hrd
    subst hl'
    refine ⟨α, w, .int .i64 0, ?_, .refl h, .int _ _⟩
    unfold Builtin.copy_
    simp only [e1, e3, e4, Sem.run_bind, run_underlying hu, Result.andThen, lenOf_sound (P := P) (w := w) hn hrx, run_sizeOf hs]
    rw [show Nat.min n n' = min n n' from rfl, g1, h0]
    cases a' <;> rfl
   ·rename_i h0
    split at hx
    ·rename_i S1 hst
     cases hx
     rcases slice_inv hrd with ⟨l0, cap', hl0, h2, h3, h4, rfl⟩ | ⟨a', rfl, rfl, rfl⟩
     ·obtain ⟨w', e5, e6⟩ := h.storeN (P := P) hl0 g2 hst
      refine ⟨α, w', .int .i64 (min n len : Nat), ?_, e6, .int _ _⟩
      unfold Builtin.copy_
      simp only [e1, e3, e4, Sem.run_bind, run_underlying hu, Result.andThen, lenOf_sound (P := P) (w := w) hn hrx, run_sizeOf hs]
      rw [show Nat.min n len = min n len from rfl, g1]
      simp only []
      rw [e5]
      rfl
     ·simp at h0
    ·cases hx
  ·cases hx
 ·cases hx
theorem xlen_sound (h : Rel α S w) {ts : Array TypeId} {ty : TypeId} {args : List Value} {args' : Array Value} {v : Value} (hx : xlen P S ts.toList args = some v) (hr : LRel α args args'.toList) :
 (Builtin.len_ ts ty args').run P w = .ok v w ∧ VRel α v v := by
 unfold xlen at hx
 split at hx
 case h_2 => cases hx
 rename_i t x hts
 obtain ⟨x', rfl, hrx⟩ := one_inv hr
 have e1 := head_of hts
 have e3 : (#[x'] : Array Value)[0]? = some x' := rfl
 unfold Builtin.len_
 simp only [e1, e3, Sem.run_bind]
 split at hx
 ·rename_i s hu
  cases hx; cases hrx
  simp only [run_underlying hu, Result.andThen]
  have : s.data.toList.length = s.size := by simp
  rw [this]
  exact ⟨rfl, .int _ _⟩
 ·rename_i n e hu
  cases hx
  simp only [run_underlying hu, Result.andThen]
  exact ⟨rfl, .int _ _⟩
 ·rename_i e a n c hu
  cases hx
  obtain ⟨a', n', c', rfl, _, hl⟩ := isNone_of_rel_slice hrx
  subst hl
  simp only [run_underlying hu, Result.andThen]
  exact ⟨rfl, .int _ _⟩
 ·rename_i k e hu
  cases hx; cases hrx
  simp only [run_underlying hu, Result.andThen]
  exact ⟨rfl, .int _ _⟩
 ·rename_i k e r hu
  split at hx
  ·rename_i es clock ro hg
   cases hx
   cases hrx with
   | map _ l hl =>
    obtain ⟨l', hl', h0, es', hb, hlen, _⟩ := h.ent _ _ hg
    rw [hl] at hl'; cases hl'
    simp only [run_underlying hu, Result.andThen, Sem.run_bind]
    have : (getObj l.blk).run P w = .ok (.map es' clock) w := by simp [getObj, Sem.run, hb]
    rw [this, hlen]
    exact ⟨rfl, .int _ _⟩
  ·cases hx
 ·cases hx
theorem min2_sound {x y v : Value} {x' y' : Value} (hx : min2 x y = some v) (hrx : VRel α x x') (hry : VRel α y y') : (Builtin.min2 x' y').run P w = .ok v w ∧ VRel α v v := by
 unfold min2 at hx
 split at hx
 ·cases hx; cases hrx; cases hry
  exact ⟨rfl, .int _ _⟩
 ·cases hx
theorem max2_sound {x y v : Value} {x' y' : Value} (hx : max2 x y = some v) (hrx : VRel α x x') (hry : VRel α y y') : (Builtin.max2 x' y').run P w = .ok v w ∧ VRel α v v := by
 unfold max2 at hx
 split at hx
 ·cases hx; cases hrx; cases hry
  exact ⟨rfl, .int _ _⟩
 ·cases hx
theorem fold2_sound {f : Value → Value → Option Value} {g : Value → Value → Sem Value} (hf : ∀ x y v x' y', f x y = some v → VRel α x x' → VRel α y y' → (g x' y').run P w = .ok v w ∧ VRel α v v) :
 ∀ (l l' : List Value) (x x' v : Value), fold2 f x l = some v → VRel α x x' → LRel α l l' → ∃ v', (l'.foldlM g x').run P w = .ok v' w ∧ VRel α v v'
 | [], l', x, x', v, h, hx, hl => by
  have : l' = [] := by have := hl.1; cases l' <;> simp_all
  subst this
  simp only [fold2] at h; cases h
  exact ⟨x', rfl, hx⟩
 | y :: r, l', x, x', v, h, hx, hl => by
  simp only [fold2] at h
  split at h
  ·rename_i z hz
   cases l' with
   | nil => have := hl.1; simp at this
   | cons y' r' =>
    have hy := hl.2 0 y y' rfl rfl
    obtain ⟨h1, h2⟩ := hf _ _ _ _ _ hz hx hy
    have hr : LRel α r r' := ⟨by have := hl.1; simpa using this, fun i a b ha hb => hl.2 (i + 1) a b (by simpa using ha) (by simpa using hb)⟩
    obtain ⟨v', g1, g2⟩ := fold2_sound hf r r' z z v h h2 hr
    exact ⟨v', by rw [List.foldlM_cons, Sem.run_bind, h1]; exact g1, g2⟩
  ·cases h
def xminmax (f : Value → Value → Option Value) (args : List Value) : Option Value :=
 match args with
 | [] => none
 | x :: r => fold2 f x r
theorem xmin_sound {ts : Array TypeId} {ty : TypeId} {args : List Value} {args' : Array Value} {v : Value} (hx : xminmax min2 args = some v) (hr : LRel α args args'.toList) :
 ∃ v', (Builtin.min_ ts ty args').run P w = .ok v' w ∧ VRel α v v' := by
 unfold xminmax at hx
 split at hx
 ·cases hx
 ·rename_i x r
  cases hl : args'.toList with
  | nil => rw [hl] at hr; have := hr.1; simp at this
  | cons y s =>
   rw [hl] at hr
   obtain ⟨v', g1, g2⟩ := fold2_sound (P := P) (w := w) (fun x y v x' y' => min2_sound) r s x y v hx (hr.2 0 _ _ rfl rfl) ⟨by have := hr.1; simpa using this, fun i a b ha hb => hr.2 (i + 1) a b (by simpa using ha) (by simpa using hb)⟩
   exact ⟨v', by simp only [Builtin.min_, hl]; exact g1, g2⟩
theorem xmax_sound {ts : Array TypeId} {ty : TypeId} {args : List Value} {args' : Array Value} {v : Value} (hx : xminmax max2 args = some v) (hr : LRel α args args'.toList) :
 ∃ v', (Builtin.max_ ts ty args').run P w = .ok v' w ∧ VRel α v v' := by
 unfold xminmax at hx
 split at hx
 ·cases hx
 ·rename_i x r
  cases hl : args'.toList with
  | nil => rw [hl] at hr; have := hr.1; simp at this
  | cons y s =>
   rw [hl] at hr
   obtain ⟨v', g1, g2⟩ := fold2_sound (P := P) (w := w) (fun x y v x' y' => max2_sound) r s x y v hx (hr.2 0 _ _ rfl rfl) ⟨by have := hr.1; simpa using this, fun i a b ha hb => hr.2 (i + 1) a b (by simpa using ha) (by simpa using hb)⟩
   exact ⟨v', by simp only [Builtin.max_, hl]; exact g1, g2⟩
theorem xclear_sound (h : Rel α S w) {ts : Array TypeId} {ty : TypeId} {args : List Value} {args' : Array Value} {v : Value} {S' : St} (hx : xclear P S ts.toList args = some (v, S')) (hr : LRel α args args'.toList) :
 ∃ w', (Builtin.clear_ ts ty args').run P w = .ok v w' ∧ Next α S w α S' w' ∧ v = .tuple #[] := by
 unfold xclear at hx
 split at hx
 case h_2 => cases hx
 rename_i t r x hts
 obtain ⟨x', rfl, hrx⟩ := one_inv hr
 have e1 := head_of hts
 have e3 : (#[x'] : Array Value)[0]? = some x' := rfl
 unfold Builtin.clear_
 simp only [e1, e3, Sem.run_bind]
 split at hx
 ·rename_i e a c hu
  cases hx
  obtain ⟨a', n', c', rfl, _, hl⟩ := isNone_of_rel_slice hrx
  subst hl
  refine ⟨w, ?_, .refl h, rfl⟩
  simp only [run_underlying hu, Result.andThen]
  cases a' <;> rfl
 ·rename_i elem b o n cap hne hu
  split at hx
  ·rename_i z s hz hs
   split at hx
   ·rename_i hc
    split at hx
    ·rename_i S1 hst
     cases hx
     rcases slice_inv hrx with ⟨l, cap', hl, h2, h3, h4, rfl⟩ | ⟨a', rfl, rfl, rfl⟩
     ·obtain ⟨w', e5, e6⟩ := h.storeN (P := P) hl (zerosL_rel (zero_rel hz α).cells n) hst
      refine ⟨w', ?_, e6, rfl⟩
      have hzc : (Builtin.zeroCells z.cells n).toList = zerosL z.cells.toList n := by
       have := zeros_eq z.cells n
       unfold Builtin.zeroCells
       rw [this]
      cases n with
      | zero => exact (hne rfl).elim
      | succ n =>
       simp only [run_underlying hu, Result.andThen]
       simp only [Sem.run_bind, run_zero hz, Result.andThen, hzc, e5]
       rfl
     ·exact (hne rfl).elim
    ·cases hx
   ·cases hx
  ·cases hx
 ·cases hx
theorem keySame_sound {kind : TypeDesc} {k k' e e' : Value} {b : Bool} (h : keySame kind k e = some b) (hk : VRel α k k') (he : VRel α e e') :
 Instr.sameNow kind k' e' = some b ∧ (b = true → Instr.sameBits 10000 e' k' = true) := by
 unfold keySame at h
 split at h
 ·split at h
  ·rename_i hkk
   cases h; cases hk; cases he
   subst hkk
   refine ⟨by simp [Instr.sameNow]; rfl, fun hb => ?_⟩
   simp only [decide_eq_true_eq] at hb
   subst hb
   simp [Instr.sameBits]
  ·cases h
 ·cases h; cases hk; cases he
  refine ⟨by simp only [Instr.sameNow, beqBytes_eq, beq_toListBytes, ByteArray.toList_eq], fun hb => ?_⟩
  simp only [Instr.sameBits]
  rw [beq_toListBytes, ByteArray.toList_eq, ByteArray.toList_eq]
  rw [beqBytes_eq] at hb
  simp only [beq_iff_eq] at hb ⊢
  exact hb.symm
 ·cases h; cases hk; cases he
  refine ⟨rfl, fun hb => ?_⟩
  simp only [beq_iff_eq] at hb
  subst hb
  simp [Instr.sameBits]
 ·cases h
def MRel (α : Place) (es es' : List MapEntry) : Prop :=
 es.length = es'.length ∧ ∀ (i : Nat) e e', es[i]? = some e → es'[i]? = some e' → VRel α e.key e'.key ∧ VRel α e.val e'.val ∧ e.born = e'.born
theorem MRel.cons_inv {e : MapEntry} {l l' : List MapEntry} (h : MRel α (e :: l) l') : ∃ e' r', l' = e' :: r' ∧ VRel α e.key e'.key ∧ VRel α e.val e'.val ∧ e.born = e'.born ∧ MRel α l r' := by
 cases l' with
 | nil => have := h.1; simp at this
 | cons e' r' =>
  obtain ⟨a, b, c⟩ := h.2 0 e e' rfl rfl
  exact ⟨e', r', rfl, a, b, c, by have := h.1; simpa using this, fun i x y hx hy => h.2 (i + 1) x y (by simpa using hx) (by simpa using hy)⟩
theorem xfind_sound {kind : TypeDesc} {k k' : Value} (hk : VRel α k k') : ∀ (es es' : List MapEntry) (i : Nat) (r : Option (Nat × Value)), MRel α es es' → xfind kind k es i = some r →
 ∃ r', Instr.findNow kind k' es' i = some r' ∧ (r = none → r' = none) ∧
  ∀ j v, r = some (j, v) → i ≤ j ∧ ∃ v' e e', r' = some (j, v') ∧ VRel α v v' ∧ es[j - i]? = some e ∧ es'[j - i]? = some e' ∧ Instr.sameBits 10000 e'.key k' = true
 | [], es', i, r, hm, h => by
  have : es' = [] := by have := hm.1; cases es' <;> simp_all
  subst this
  simp only [xfind] at h; cases h
  exact ⟨none, rfl, fun _ => rfl, fun j v e => by cases e⟩
 | e :: es, es', i, r, hm, h => by
  obtain ⟨e', r', rfl, h1, h2, h3, h4⟩ := hm.cons_inv
  simp only [xfind] at h
  split at h
  ·rename_i hs
   cases h
   obtain ⟨g1, g2⟩ := keySame_sound hs hk h1
   refine ⟨some (i, e'.val), by simp only [Instr.findNow, g1], (fun x => by cases x), fun j v x => ?_⟩
   cases x
   exact ⟨Nat.le_refl _, e'.val, e, e', rfl, h2, by simp, by simp, g2 rfl⟩
  ·rename_i hs
   obtain ⟨g1, _⟩ := keySame_sound hs hk h1
   obtain ⟨r2, f1, f2, f3⟩ := xfind_sound hk es r' (i + 1) r h4 h
   refine ⟨r2, by simp only [Instr.findNow, g1, f1], f2, fun j v x => ?_⟩
   obtain ⟨hle, v', a, a', y1, y2, y3, y4, y5⟩ := f3 j v x
   refine ⟨by omega, v', a, a', y1, y2, ?_, ?_, y5⟩
   ·rw [show j - i = (j - (i + 1)) + 1 by omega, List.getElem?_cons_succ]; exact y3
   ·rw [show j - i = (j - (i + 1)) + 1 by omega, List.getElem?_cons_succ]; exact y4
  ·cases h
theorem run_getObj {r : Nat} {es : Array MapEntry} {clock : Nat} (h : w.heap[r]? = some (.map es clock)) : (getObj r).run P w = .ok (.map es clock) w := by
 simp [getObj, Sem.run, h]
theorem run_checkKey {key : TypeId} {kind : TypeDesc} {k : Value} (b : Bool) (n : Nat) (hu : P.underlying key = some kind) (hk : keyKind kind = true) (w : World) :
 (Instr.checkKey b (n + 1) key k).run P w = .ok () w := by
 simp only [Instr.checkKey, Sem.run_bind, run_underlying hu, Result.andThen]
 cases kind <;> first | rfl | simp [keyKind] at hk
theorem run_findKey {key : TypeId} {kind : TypeDesc} {k : Value} {es : List MapEntry} {r : Option (Nat × Value)} (hu : P.underlying key = some kind) (h : Instr.findNow kind k es 0 = some r) (w : World) :
 (Instr.findKey key k es).run P w = .ok r w := by
 simp only [Instr.findKey, Sem.run_bind, run_underlying hu, Result.andThen, h]
 rfl
theorem Rel.mapAt (h : Rel α S w) {r : Nat} {l : Loc} (hl : α r = some l) {es : List MapEntry} {clock : Nat} {ro : Bool} (hg : S.heap.get r = some (.map es clock ro)) :
 l.off = 0 ∧ ∃ es' : Array MapEntry, w.heap[l.blk]? = some (.map es' clock) ∧ MRel α es es'.toList := by
 obtain ⟨l', hl', h0, es', hb, hlen, he⟩ := h.ent _ _ hg
 rw [hl] at hl'; cases hl'
 exact ⟨h0, es', hb, by simpa using hlen, fun i a b ha hb => he i a b ha (by simpa using hb)⟩
theorem map_inv {r : Nat} {v : Value} (h : VRel α (.map (some r)) v) : ∃ l, α r = some l ∧ v = .map (some l.blk) := by
 cases h with
 | map i l h => exact ⟨l, h, rfl⟩
theorem pair_rel {a a' b b' : Value} (h1 : VRel α a a') (h2 : VRel α b b') : VRel α (.tuple #[a, b]) (.tuple #[a', b']) :=
 LRel.tuple (.cons h1 (.cons h2 (.nil _)))
theorem xlookup_sound (h : Rel α S w) {t : TypeId} {x x' k k' v : Value} {ok : Bool} (hx : xlookup P S t x k ok = some v) (hrx : VRel α x x') (hrk : VRel α k k') :
 ∃ v', (Instr.lookup t x' k' ok).run P w = .ok v' w ∧ VRel α v v' := by
 unfold xlookup at hx
 split at hx
 case h_2 => cases hx
 rename_i key elem hu
 split at hx
 case h_2 => cases hx
 rename_i kind hk
 split at hx
 ·cases hx
 rename_i hkk
 have hkk : keyKind kind = true := by simpa using hkk
 have fin : ∀ (es : List MapEntry) (es' : Array MapEntry), MRel α es es'.toList → ∀ v,
  (match xfind kind k es 0 with
   | none => none
   | some (some (_, v)) => some (if ok then .tuple #[v, .bool true] else v)
   | some none => match zeroT P elem with
    | some z => some (if ok then .tuple #[z, .bool false] else z)
    | none => none) = some v →
  (∃ j u', (Instr.findKey key k' es'.toList).run P w = .ok (some (j, u')) w ∧ VRel α v (if ok then .tuple #[u', .bool true] else u')) ∨
  (∃ z, (Instr.findKey key k' es'.toList).run P w = .ok none w ∧ zeroT P elem = some z ∧ VRel α v (if ok then .tuple #[z, .bool false] else z)) := by
  intro es es' hm v hv
  split at hv
  ·cases hv
  ·rename_i j u hf
   cases hv
   obtain ⟨r', g1, _, g3⟩ := xfind_sound hrk _ _ 0 _ hm hf
   obtain ⟨_, v', e, e', y1, y2, _, _, _⟩ := g3 j u rfl
   subst y1
   refine .inl ⟨j, v', run_findKey hk g1 w, ?_⟩
   cases ok
   ·exact y2
   ·exact pair_rel y2 (.bool _)
  ·rename_i hf
   split at hv
   ·rename_i z hz
    cases hv
    obtain ⟨r', g1, g2, _⟩ := xfind_sound hrk _ _ 0 _ hm hf
    have := g2 rfl
    subst this
    refine .inr ⟨z, run_findKey hk g1 w, hz, ?_⟩
    cases ok
    ·exact zero_rel hz α
    ·exact pair_rel (zero_rel hz α) (.bool _)
   ·cases hv
 split at hx
 ·cases hx
 ·rename_i es hes
  unfold xents at hes
  split at hes
  ·cases hes
   cases hrx
   rcases fin [] #[] ⟨rfl, fun i a b ha => by simp at ha⟩ v hx with ⟨j, u', g1, g2⟩ | ⟨z, g1, hz, g2⟩
   ·refine ⟨_, ?_, g2⟩
    simp only [Instr.lookup, Sem.run_bind, run_underlying hu, Result.andThen, Sem.run_pure, run_checkKey _ 9999 hk hkk, g1]
   ·refine ⟨_, ?_, g2⟩
    simp only [Instr.lookup, Sem.run_bind, run_underlying hu, Result.andThen, Sem.run_pure, run_checkKey _ 9999 hk hkk, g1, run_zero hz]
  ·rename_i r
   split at hes
   ·rename_i es0 clock ro hg
    cases hes
    obtain ⟨l, hl, rfl⟩ := map_inv hrx
    obtain ⟨h0, es', hb, hm⟩ := h.mapAt hl hg
    rcases fin es es' hm v hx with ⟨j, u', g1, g2⟩ | ⟨z, g1, hz, g2⟩
    ·refine ⟨_, ?_, g2⟩
     simp only [Instr.lookup, Sem.run_bind, run_underlying hu, Result.andThen, run_getObj hb, Sem.run_pure, run_checkKey _ 9999 hk hkk, g1]
    ·refine ⟨_, ?_, g2⟩
     simp only [Instr.lookup, Sem.run_bind, run_underlying hu, Result.andThen, run_getObj hb, Sem.run_pure, run_checkKey _ 9999 hk hkk, g1, run_zero hz]
   ·cases hes
  ·cases hes
theorem getElem?_setEnt : ∀ (es : List MapEntry) (i : Nat) (k v : Value) (j : Nat), (setEnt es i k v)[j]? = if i = j then (es[j]?).map (fun e => { e with key := k, val := v }) else es[j]?
 | [], i, k, v, j => by simp [setEnt]
 | e :: r, 0, k, v, j => by cases j <;> simp [setEnt]
 | e :: r, i + 1, k, v, j => by
  cases j with
  | zero => simp [setEnt]
  | succ j => simp only [setEnt, List.getElem?_cons_succ, getElem?_setEnt r i k v j, Nat.add_right_cancel_iff]
theorem length_setEnt : ∀ (es : List MapEntry) (i : Nat) (k v : Value), (setEnt es i k v).length = es.length
 | [], i, k, v => rfl
 | e :: r, 0, k, v => rfl
 | e :: r, i + 1, k, v => by simp [setEnt, length_setEnt r i k v]
theorem run_setObj {r : Nat} {es es2 : Array MapEntry} {c c2 : Nat} (h : w.heap[r]? = some (.map es c)) :
 (setObj r (.map es2 c2)).run P w = .ok () { w with heap := w.heap.setIfInBounds r (.map es2 c2) } := by
 simp [setObj, Sem.run, h]
theorem Next.mapTo (h : Rel α S w) {r : Nat} {l : Loc} (hl : α r = some l) {es : List MapEntry} {clock : Nat} (hg : S.heap.get r = some (.map es clock false)) (es2 : List MapEntry) (es2' : Array MapEntry) (c2 : Nat) (hm : MRel α es2 es2'.toList) :
 Next α S w α (S.put r (.map es2 c2 false)) { w with heap := w.heap.setIfInBounds l.blk (.map es2' c2) } := by
 obtain ⟨h0, es', hb, _⟩ := h.mapAt hl hg
 have hlt : l.blk < w.heap.size := h.size _ _ hl
 refine Next.write h hg rfl hl _ rfl (fun b hb => ?_) (by simp) ⟨rfl, rfl, rfl⟩ ⟨h0, es2', ?_, by have := hm.1; simpa using this, fun i a b ha hb => hm.2 i a b ha (by simpa using hb)⟩
 ·simp only [Array.getElem?_setIfInBounds_ne (Ne.symm hb)]
 ·simp [hlt]
theorem xupdate_sound (h : Rel α S w) {t : TypeId} {m m' k k' v v' : Value} {S' : St} (hx : xupdate P S t m k v = some S') (hrm : VRel α m m') (hrk : VRel α k k') (hrv : VRel α v v') :
 ∃ w', (Instr.mapUpdate t m' k' v').run P w = .ok () w' ∧ Next α S w α S' w' := by
 unfold xupdate at hx
 split at hx
 case h_2 => cases hx
 rename_i key elem hu
 split at hx
 case h_2 => cases hx
 rename_i kind r hk
 split at hx
 ·cases hx
 rename_i hkk
 have hkk : keyKind kind = true := by simpa using hkk
 split at hx
 case h_2 => cases hx
 rename_i es clock hg
 obtain ⟨l, hl, rfl⟩ := map_inv hrm
 obtain ⟨h0, es', hb, hm⟩ := h.mapAt hl hg
 split at hx
 ·cases hx
 ·rename_i j u hf
  cases hx
  obtain ⟨r', g1, _, g3⟩ := xfind_sound hrk _ _ 0 _ hm hf
  obtain ⟨_, u', e, e', y1, y2, y3, y4, y5⟩ := g3 j u rfl
  subst y1
  simp only [Nat.sub_zero] at y3 y4
  refine ⟨_, ?_, Next.mapTo h hl hg _ (es'.modify j fun e => { e with key := k', val := v' }) _ ?_⟩
  ·have hold : ((es'[j]?).map (·.key)).getD k' = e'.key := by rw [Array.getElem?_toList] at y4; rw [y4]; rfl
   simp only [Instr.mapUpdate, Sem.run_bind, run_underlying hu, Result.andThen, run_getObj hb, run_checkKey _ 9999 hk hkk, run_findKey hk g1, hold, Instr.keyThatStays]
   rw [if_pos y5]
   simp only [Sem.run_pure]
   exact run_setObj hb
  ·refine ⟨by rw [length_setEnt]; simpa using hm.1, fun i a b ha hb => ?_⟩
   rw [getElem?_setEnt] at ha
   rw [Array.getElem?_toList, Array.getElem?_modify] at hb
   by_cases hij : j = i
   ·subst hij
    rw [if_pos rfl, y3] at ha
    rw [Array.getElem?_toList] at y4
    have hborn := (hm.2 j _ _ y3 (by rw [Array.getElem?_toList]; exact y4)).2.2
    rw [if_pos rfl, y4] at hb
    cases ha; cases hb
    exact ⟨hrk, hrv, hborn⟩
   ·rw [if_neg hij] at ha hb
    exact hm.2 i a b ha (by rw [Array.getElem?_toList]; exact hb)
 ·rename_i hf
  cases hx
  obtain ⟨r', g1, g2, _⟩ := xfind_sound hrk _ _ 0 _ hm hf
  have := g2 rfl
  subst this
  refine ⟨_, ?_, Next.mapTo h hl hg _ (es'.push { key := k', val := v', born := clock }) _ ?_⟩
  ·simp only [Instr.mapUpdate, Sem.run_bind, run_underlying hu, Result.andThen, run_getObj hb, run_checkKey _ 9999 hk hkk, run_findKey hk g1]
   exact run_setObj hb
  ·have hlen := hm.1
   refine ⟨by simp at hlen ⊢; exact hlen, fun i a b ha hb => ?_⟩
   rw [Array.toList_push] at hb
   by_cases hi : i < es.length
   ·rw [List.getElem?_append_left hi] at ha
    rw [List.getElem?_append_left (by omega)] at hb
    exact hm.2 i a b ha hb
   ·rw [List.getElem?_append_right (by omega)] at ha
    rw [List.getElem?_append_right (by omega), ← hlen] at hb
    cases hj : i - es.length with
    | zero => rw [hj] at ha hb; simp at ha hb; subst ha; subst hb; exact ⟨hrk, hrv, rfl⟩
    | succ n => rw [hj] at ha; simp at ha
theorem xdelete_sound (h : Rel α S w) {ts : Array TypeId} {ty : TypeId} {args : List Value} {args' : Array Value} {v : Value} {S' : St} (hx : xdelete P S ts.toList args = some (v, S')) (hr : LRel α args args'.toList) :
 ∃ w', (Builtin.delete_ ts ty args').run P w = .ok v w' ∧ Next α S w α S' w' ∧ v = .tuple #[] := by
 unfold xdelete at hx
 split at hx
 case h_2 => cases hx
 rename_i t r m k hts
 obtain ⟨m', k', rfl, hrm, hrk⟩ := two_inv hr
 have e1 := head_of hts
 have e3 : (#[m', k'] : Array Value)[0]? = some m' := rfl
 have e4 : (#[m', k'] : Array Value)[1]? = some k' := rfl
 unfold Builtin.delete_
 simp only [e1, e3, e4, Sem.run_bind]
 split at hx
 case h_2 => cases hx
 rename_i key elem hu
 split at hx
 ·rename_i kind r hk
  split at hx
  ·cases hx
  rename_i hkk
  have hkk : keyKind kind = true := by simpa using hkk
  split at hx
  case h_2 => cases hx
  rename_i es clock hg
  obtain ⟨l, hl, rfl⟩ := map_inv hrm
  obtain ⟨h0, es', hb, hm⟩ := h.mapAt hl hg
  split at hx
  ·cases hx
  ·rename_i j u hf
   cases hx
   obtain ⟨r', g1, _, g3⟩ := xfind_sound hrk _ _ 0 _ hm hf
   obtain ⟨_, u', e, e', y1, y2, y3, y4, y5⟩ := g3 j u rfl
   subst y1
   refine ⟨_, ?_, Next.mapTo h hl hg _ (es'.eraseIdxIfInBounds j) _ ?_, rfl⟩
   ·simp only [run_underlying hu, Result.andThen, Sem.run_bind, run_getObj hb, run_checkKey _ 9999 hk hkk, run_findKey hk g1, run_setObj hb]
    rfl
   ·have he : (es'.eraseIdxIfInBounds j).toList = es'.toList.eraseIdx j := by
     unfold Array.eraseIdxIfInBounds
     split
     ·rw [Array.toList_eraseIdx]
     ·rw [List.eraseIdx_of_length_le (by simp; omega)]
    rw [he]
    have hlen := hm.1
    refine ⟨by rw [List.length_eraseIdx, List.length_eraseIdx, hlen], fun i a b ha hb => ?_⟩
    rw [List.getElem?_eraseIdx] at ha hb
    split at ha
    ·rename_i hij; rw [if_pos hij] at hb; exact hm.2 i a b ha hb
    ·rename_i hij; rw [if_neg hij] at hb; exact hm.2 _ a b ha hb
  ·rename_i hf
   cases hx
   obtain ⟨r', g1, g2, _⟩ := xfind_sound hrk _ _ 0 _ hm hf
   have := g2 rfl
   subst this
   have hself : w.heap.setIfInBounds l.blk (.map es' clock) = w.heap := by
    apply Array.ext_getElem?
    intro i
    by_cases hi : l.blk = i
    ·subst hi
     have := (Array.getElem?_eq_some_iff.1 hb).1
     rw [hb]
     simp [this]
    ·rw [Array.getElem?_setIfInBounds_ne hi]
   refine ⟨w, ?_, .refl h, rfl⟩
   simp only [run_underlying hu, Result.andThen, Sem.run_bind, run_getObj hb, run_checkKey _ 9999 hk hkk, run_findKey hk g1, run_setObj hb, hself]
   rfl
 ·rename_i kind hk
  split at hx
  ·rename_i hkk
   cases hx
   cases hrm
   refine ⟨w, ?_, .refl h, rfl⟩
   simp only [run_underlying hu, Result.andThen, Sem.run_bind, run_checkKey _ 9999 hk hkk]
   rfl
  ·cases hx
 ·cases hx
end
end Go.Xe
