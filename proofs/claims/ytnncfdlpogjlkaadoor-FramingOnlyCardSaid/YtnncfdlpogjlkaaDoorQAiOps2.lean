/-
  What the operations do: arithmetic, reads, addresses, slices.
-/
import Derived.Test.YtnncfdlpogjlkaaDoorQAiOps1
namespace Go.Ai
set_option linter.unusedVariables false
set_option linter.unusedSimpArgs false
set_option linter.unnecessarySimpa false
open Go.RowKit

section
variable {G : Nat → Option (List AV)} {I : World → Prop} {B0 : Nat} {E : Env}
variable {P : Program} {F : Fr} {a : Act} {d : Option Tmp} {ty : TypeId} {pos : String} {after : Array Edge} {gd : Option (Nat × Bool)}

theorem mem_rdb (H : Good G I B0 E) {b o g : Nat} {t0 : TypeId} {cs : List AV} (hb : E.h[b]? = some (.mem t0 cs)) (hg : E.σ b = some g) : Rdb E (cs.drop o) ⟨g, o, none⟩ := by
  intro j x hj
  obtain ⟨g', c, fr, h1, h2, h3, h4, h5, h6⟩ := H.blk b _ hb
  rw [hg] at h1
  injection h1 with h1
  subst h1
  rw [List.getElem?_drop] at hj
  obtain ⟨v, k1, k2, k3⟩ := h6 (o + j) x hj
  refine ⟨v, ?_, k2, k3⟩
  rw [Addr.add_lit]
  simp [World.cell?, h3, k1]

theorem op_load_ro (H : Good G I B0 E) (hf : FrsOk E F a) (t : TypeId) (x : Operand) {g : Bool} {cs : List AV} {v : AV} (hx : ev G F x = (g, .ro cs)) (hg : g = true) (hr : rd P t cs = some v) :
    OpOk P G I B0 E a ⟨d, .load t x, ty, pos, after, gd⟩ true v E.h := by
  obtain ⟨ad, h1, h2⟩ := ev_rel H hf hx hg
  obtain ⟨c, k1, k2⟩ := rd_ok hr h2.rdb
  refine OpOk.same H c ?_ k2
  simp [execOp, h1, Instr.loadAt, Instr.sureAddr, k1]

theorem op_load_ptr (H : Good G I B0 E) (hf : FrsOk E F a) (t : TypeId) (x : Operand) {g : Bool} {b o : Nat} {t0 : TypeId} {cs : List AV} {v : AV} (hx : ev G F x = (g, .ptr b o)) (hg : g = true)
    (hb : E.h[b]? = some (.mem t0 cs)) (hr : rd P t (cs.drop o) = some v) :
    OpOk P G I B0 E a ⟨d, .load t x, ty, pos, after, gd⟩ true v E.h := by
  obtain ⟨t2, cs2, gg, h2, h3, h4⟩ := ev_rel H hf hx hg
  rw [h2] at hb
  injection hb with hb
  injection hb with hb0 hb
  subst hb
  obtain ⟨c, k1, k2⟩ := rd_ok hr (mem_rdb H h2 h3)
  refine OpOk.same H c ?_ k2
  simp [execOp, h4, Instr.loadAt, Instr.sureAddr, k1]

theorem op_nilCheck_ptr (H : Good G I B0 E) (hf : FrsOk E F a) (x : Operand) {g : Bool} {b o : Nat} (hx : ev G F x = (g, .ptr b o)) (hg : g = true) :
    OpOk P G I B0 E a ⟨d, .nilCheck x, ty, pos, after, gd⟩ true (.ptr b o) E.h := by
  have h := ev_rel H hf hx hg
  obtain ⟨_, cs, gg, _, _, h4⟩ := id h
  refine OpOk.same H (a.eval x) ?_ h
  simp [execOp, h4]

theorem op_nilCheck_ro (H : Good G I B0 E) (hf : FrsOk E F a) (x : Operand) {g : Bool} {cs : List AV} (hx : ev G F x = (g, .ro cs)) (hg : g = true) :
    OpOk P G I B0 E a ⟨d, .nilCheck x, ty, pos, after, gd⟩ true (.ro cs) E.h := by
  have h := ev_rel H hf hx hg
  obtain ⟨ad, h1, _⟩ := h
  refine OpOk.same H (a.eval x) ?_ (ev_rel H hf hx hg)
  simp [execOp, h1]

theorem bin_ok {op : BinOp} {t : TypeId} {x y : AV} {ob : Bool} {v : AV} {u w : Value} (px py : Operand) (h : binA P op t x y = some (ob, v)) (hob : ob = true) (hx : Rel E x u) (hy : Rel E y w) :
    ∃ c, (do eqGuard op t px py u w; binOp op t u w : Sem Value).run P E.w = .ok c E.w ∧ Rel E v c := by
  unfold binA at h
  split at h
  all_goals first
    | (cases h; done)
    | (rename_i k p k' q
       simp only [Rel] at hx hy
       subst hx; subst hy
       injection h with h
       injection h with h1 h2
       subst h2
       rw [← h1] at hob
       first
         | (have hq : 0 ≤ q := by simpa using hob
            have hq' : ¬ q < 0 := by omega
            (refine ⟨_, ?_, rfl⟩; simp [go_sem, Op.shift, hq']; done))
         | (have hk : k = k' := by simpa using hob
            subst hk
            (refine ⟨_, ?_, rfl⟩; simp [go_sem]; done))
         | (have hk : k = k' ∧ ¬ q = 0 := by simpa using hob
            obtain ⟨hk, hq⟩ := hk
            subst hk
            (refine ⟨_, ?_, rfl⟩; simp [go_sem, hq]; done)))
    | (rename_i p q
       simp only [Rel] at hx hy
       subst hx; subst hy
       injection h with h
       injection h with h1 h2
       subst h2
       rw [← h1] at hob
       first
         | (refine ⟨_, ?_, rfl⟩; simp [go_sem]; done)
         | (have hq : p.length + q.length ≤ 9223372036854775807 := by simpa using hob
            refine ⟨.string ⟨(p ++ q).toArray⟩, ?_, rfl⟩
            have hq' : ¬ (9223372036854775807 < p.length + q.length) := by omega
            have e := ByteArray.mk_append_mk p q
            simp [binOp, Op.stringOp, eqGuard_add, ByteArray.size_mk', e]
            omega))

theorem op_bin (H : Good G I B0 E) (hf : FrsOk E F a) (op : BinOp) (t u : TypeId) (x y : Operand) {r : Bool × AV} (h : binA P op t (ev G F x).2 (ev G F y).2 = some r)
    (hob : ((ev G F x).1 && (ev G F y).1 && r.1) = true) : OpOk P G I B0 E a ⟨d, .binOp op t x y u, ty, pos, after, gd⟩ true r.2 E.h := by
  simp only [Bool.and_eq_true] at hob
  obtain ⟨c, h1, h2⟩ := bin_ok (E := E) x y (ob := r.1) (v := r.2) h hob.2 ((ev_ok H hf x).1 hob.1.1) ((ev_ok H hf y).1 hob.1.2)
  refine OpOk.same H c ?_ h2
  simp only [execOp]
  rw [Sem.run_bind, h1]
  rfl

theorem op_un (H : Good G I B0 E) (hf : FrsOk E F a) (op : UnOp) (t : TypeId) (x : Operand) {r : Bool × AV} (h : unA op (ev G F x).2 = some r)
    (hob : ((ev G F x).1 && r.1) = true) : OpOk P G I B0 E a ⟨d, .unOp op t x, ty, pos, after, gd⟩ true r.2 E.h := by
  simp only [Bool.and_eq_true] at hob
  have hx := (ev_ok H hf x).1 hob.1
  unfold unA at h
  split at h
  · rename_i k n he
    rw [he] at hx
    simp only [Rel] at hx
    injection h with h
    subst h
    refine OpOk.same H (.int k (k.wrap (0 - n))) ?_ rfl
    simp [execOp, hx, Op.unary, Op.intArith]
  · rename_i b he
    rw [he] at hx
    simp only [Rel] at hx
    injection h with h
    subst h
    refine OpOk.same H (.bool !b) ?_ rfl
    simp [execOp, hx, Op.unary]
  · cases h

theorem op_convert (H : Good G I B0 E) (hf : FrsOk E F a) (src dst : TypeId) (x : Operand) {r : Bool × AV} (h : convA P src dst (ev G F x).2 = some r)
    (hob : ((ev G F x).1 && r.1) = true) : OpOk P G I B0 E a ⟨d, .convert src dst x, ty, pos, after, gd⟩ true r.2 E.h := by
  simp only [Bool.and_eq_true] at hob
  have hx := (ev_ok H hf x).1 hob.1
  unfold convA at h
  split at h
  · rename_i ds k k' n h1 h2 he
    rw [he] at hx
    simp only [Rel] at hx
    injection h with h
    subst h
    refine OpOk.same H (.int k (k.wrap n)) ?_ rfl
    simp [execOp, hx, convert, run_underlying h1, run_underlying h2, Conv.intToInt]
  · rename_i s h1 h2 he
    rw [he] at hx
    simp only [Rel] at hx
    injection h with h
    subst h
    refine OpOk.same H (.string ⟨s.toArray⟩) ?_ rfl
    simp [execOp, hx, convert, run_underlying h1, run_underlying h2]
  · cases h

theorem op_makeFunc (H : Good G I B0 E) (hf : FrsOk E F a) (f : Fn) (first cap : Array Operand) (hob : ((evs G F first.toList).1 && (evs G F cap.toList).1) = true) :
    OpOk P G I B0 E a ⟨d, .makeFunc f first cap, ty, pos, after, gd⟩ true (.fn f (evs G F first.toList).2 (evs G F cap.toList).2) E.h := by
  simp only [Bool.and_eq_true] at hob
  refine OpOk.same H (.func f (first.map a.eval) (cap.map a.eval)) ?_ ⟨_, _, rfl, ?_, ?_⟩
  · simp [execOp, Instr.makeFunc]
  · simpa using evs_ok H hf _ hob.1
  · simpa using evs_ok H hf _ hob.2

theorem op_fieldAddr_ptr (H : Good G I B0 E) (hf : FrsOk E F a) (s : TypeId) (x : Operand) (f : Nat) {fs : Array Field} {fd : Field} (hs : P.underlying s = some (.struct fs)) (hfd : fs[f]? = some fd)
    (hsz : Nat.beq (P.cellsOf fd.type) 0 = false) {g : Bool} {b o : Nat} (hx : ev G F x = (g, .ptr b o)) (hg : g = true) :
    OpOk P G I B0 E a ⟨d, .fieldAddr s x f, ty, pos, after, gd⟩ true (.ptr b (o + fd.offset)) E.h := by
  obtain ⟨t0, cs, gg, h2, h3, h4⟩ := ev_rel H hf hx hg
  have hne : P.cellsOf fd.type ≠ 0 := fun e => by rw [e] at hsz; simp at hsz
  obtain ⟨i, hi, hi0⟩ : ∃ i, P.info? fd.type = some i ∧ i.size ≠ 0 := by
    unfold Program.cellsOf at hne
    cases hi : P.info? fd.type with
    | none => simp [hi] at hne
    | some i => exact ⟨i, rfl, by simpa [hi] using hne⟩
  refine OpOk.same H (.pointer (some ⟨gg, o + fd.offset, none⟩)) ?_ ⟨t0, cs, gg, h2, h3, rfl⟩
  simp [execOp, h4, Instr.fieldAt, run_underlying hs, hfd, Instr.sureAddr, fieldPlace, sizeOf, typeInfo, hi, hi0, Addr.add_lit]

theorem op_fieldAddr_ro (H : Good G I B0 E) (hf : FrsOk E F a) (s : TypeId) (x : Operand) (f : Nat) {fs : Array Field} {fd : Field} (hs : P.underlying s = some (.struct fs)) (hfd : fs[f]? = some fd)
    (hsz : Nat.beq (P.cellsOf fd.type) 0 = false) {g : Bool} {cs : List AV} (hx : ev G F x = (g, .ro cs)) (hg : g = true) :
    OpOk P G I B0 E a ⟨d, .fieldAddr s x f, ty, pos, after, gd⟩ true (.ro (cs.drop fd.offset)) E.h := by
  obtain ⟨ad, h1, h2⟩ := ev_rel H hf hx hg
  have hne : P.cellsOf fd.type ≠ 0 := fun e => by rw [e] at hsz; simp at hsz
  obtain ⟨i, hi, hi0⟩ : ∃ i, P.info? fd.type = some i ∧ i.size ≠ 0 := by
    unfold Program.cellsOf at hne
    cases hi : P.info? fd.type with
    | none => simp [hi] at hne
    | some i => exact ⟨i, rfl, by simpa [hi] using hne⟩
  refine OpOk.same H (.pointer (some (ad.add fd.offset))) ?_ ⟨_, rfl, ?_⟩
  · simp [execOp, h1, Instr.fieldAt, run_underlying hs, hfd, Instr.sureAddr, fieldPlace, sizeOf, typeInfo, hi, hi0]
  · refine At.iff.2 fun j x hj => ?_
    rw [List.getElem?_drop] at hj
    obtain ⟨v, k1, k2, k3, k4⟩ := At.iff.1 h2 (fd.offset + j) x hj
    exact ⟨v, by rw [add_add']; exact k1, k2, by rw [add_block, add_off, show ad.off + fd.offset + j = ad.off + (fd.offset + j) by omega]; exact k3, k4⟩

theorem run_part {P : Program} {t : TypeId} {cs : List AV} {v : AV} {vs : Array Value} {off : Nat} (h : rd P t (cs.drop off) = some v) (hr : Rels1 E cs vs.toList) (w : World) :
    ∃ c, (part t vs off).run P w = .ok c w ∧ Rel E v c := by
  obtain ⟨hl, hr⟩ := Rels1.iff.1 hr
  unfold rd at h
  split at h
  · rename_i dd i hu hi
    unfold part
    rw [Sem.run_bind, run_isAgg P t hu w, Result.andThen_ok]
    cases hb : isAggT P t with
    | true =>
      rw [hb] at h
      simp only at h
      cases hle : Nat.ble i.size (cs.drop off).length with
      | false => rw [hle] at h; cases h
      | true =>
        rw [hle] at h
        simp only [cond_true, Option.some.injEq] at h
        subst h
        have hle' : i.size ≤ (cs.drop off).length := Nat.le_of_ble_eq_true hle
        rw [List.length_drop] at hle'
        refine ⟨.agg (vs.extract off (off + i.size)), by simp [sizeOf, typeInfo, hi], _, rfl, Rels1.iff.2 ⟨?_, fun j c u hc hu => ?_⟩⟩
        · simp only [Array.toList_extract, List.length_take, List.length_drop, List.extract_eq_take_drop]
          omega
        · simp only [Array.toList_extract, List.extract_eq_take_drop] at hu
          rw [List.getElem?_take] at hc hu
          split at hc
          · rename_i hj
            rw [if_pos (by omega), List.getElem?_drop] at hu
            rw [List.getElem?_drop] at hc
            exact hr _ c u hc hu
          · cases hc
    | false =>
      rw [hb] at h
      simp only at h
      cases hd : cs.drop off with
      | nil => rw [hd] at h; simp at h
      | cons c r =>
        rw [hd] at h
        simp only [Option.some.injEq] at h
        subst h
        have hc : cs[off]? = some c := by
          have := List.getElem?_drop (xs := cs) (i := off) (j := 0)
          rw [hd] at this
          simpa using this.symm
        have hlt : off < vs.toList.length := by
          rw [hl]
          exact (List.getElem?_eq_some_iff.1 hc).1
        have hv : vs[off]? = some (vs[off]'(by simpa using hlt)) := Array.getElem?_eq_getElem _
        refine ⟨vs[off]'(by simpa using hlt), ?_, (hr off c _ hc (by simp)).2⟩
        simp only [hv]
        rfl
  · cases h

theorem op_field (H : Good G I B0 E) (hf : FrsOk E F a) (s : TypeId) (x : Operand) (f : Nat) {fs : Array Field} {fd : Field} (hs : P.underlying s = some (.struct fs)) (hfd : fs[f]? = some fd)
    {g : Bool} {cs : List AV} {v : AV} (hx : ev G F x = (g, .agg cs)) (hg : g = true) (hr : rd P fd.type (cs.drop fd.offset) = some v) :
    OpOk P G I B0 E a ⟨d, .field s x f, ty, pos, after, gd⟩ true v E.h := by
  obtain ⟨vs, h1, h2⟩ := ev_rel H hf hx hg
  obtain ⟨c, k1, k2⟩ := run_part (P := P) hr h2 E.w
  refine OpOk.same H c ?_ k2
  simp [execOp, h1, Instr.field, run_underlying hs, hfd, asAgg, k1]

theorem cellsOf_info {t : TypeId} {n : Nat} (h : P.cellsOf t = n) (hn : 0 < n) : ∃ i, P.info? t = some i ∧ i.size = n := by
  unfold Program.cellsOf at h
  cases hi : P.info? t with
  | none => rw [hi] at h; simp at h; omega
  | some i => exact ⟨i, rfl, by rw [hi] at h; simpa using h⟩

theorem rows_get {es : List (List AV)} {ad : Addr} {sz : Nat} (h : Rows E es ad) (hu : ∀ e ∈ es, e.length = sz) {i : Nat} {e : List AV} (hi : es[i]? = some e) : At E e (ad.add (i * sz)) := by
  induction es generalizing i ad with
  | nil => simp at hi
  | cons x es ih =>
    obtain ⟨h1, h2⟩ := h
    cases i with
    | zero =>
      simp only [List.getElem?_cons_zero, Option.some.injEq] at hi
      subst hi
      simpa [Addr.add] using h1
    | succ i =>
      have := ih h2 (fun e he => hu e (by simp [he])) (by simpa using hi)
      rw [add_add', hu x (by simp)] at this
      rwa [Nat.add_mul, Nat.one_mul, Nat.add_comm]

theorem op_indexAddr_sl (H : Good G I B0 E) (hf : FrsOk E F a) (t : TypeId) (x i : Operand) {e : TypeId} (ht : P.underlying t = some (.slice e)) {g g' : Bool} {sz : Nat} {es : List (List AV)} {own : Option Nat} {k : IntKind} {n : Int}
    (hx : ev G F x = (g, .sl sz es own)) (hi : ev G F i = (g', .int k n)) (hob : (g && g' && inR n es.length && Nat.beq sz (P.cellsOf e) && Nat.ble 1 sz) = true) :
    OpOk P G I B0 E a ⟨d, .indexAddr t x i, ty, pos, after, gd⟩ true (.ro (getE es n)) E.h := by
  simp only [Bool.and_eq_true, inR, decide_eq_true_eq] at hob
  obtain ⟨⟨⟨⟨hg, hg'⟩, hn0, hn1⟩, hsz⟩, hpos⟩ := hob
  obtain ⟨⟨A, cap, h1, h2, h3, h4, h5⟩, _⟩ := ev_rel H hf hx hg
  have h6 : a.eval i = .int k n := ev_rel H hf hi hg'
  have hne : es ≠ [] := by rintro rfl; simp at hn1; omega
  obtain ⟨ad, hA, hrow⟩ := h5 hne
  subst hA
  have hsz' : P.cellsOf e = sz := (Nat.eq_of_beq_eq_true hsz).symm
  have hpos' : 0 < sz := Nat.lt_of_lt_of_le Nat.one_pos (by have := Nat.le_of_ble_eq_true hpos; omega)
  obtain ⟨ii, hii, hiz⟩ := cellsOf_info hsz' hpos'
  have hlt : n.toNat < es.length := by omega
  have hget : es[n.toNat]? = some (getE es n) := by
    unfold getE
    rw [List.getElem?_eq_getElem hlt, List.getD_eq_getElem?_getD, List.getElem?_eq_getElem hlt]
    rfl
  refine OpOk.same H (.pointer (some (ad.add (n.toNat * sz)))) ?_ ⟨_, rfl, rows_get hrow h4 hget⟩
  have hc : 0 ≤ n ∧ n < (es.length : Int) := ⟨hn0, hn1⟩
  simp [execOp, h1, h6, Instr.indexAt, run_underlying ht, asIntOf, hc, sizeOf, typeInfo, hii, hiz]

theorem op_index_str (H : Good G I B0 E) (hf : FrsOk E F a) (t : TypeId) (x i : Operand) (ht : P.underlying t = some .string) {g g' : Bool} {s : List UInt8} {k : IntKind} {n : Int}
    (hx : ev G F x = (g, .str s)) (hi : ev G F i = (g', .int k n)) (hob : (g && g' && inR n s.length) = true) :
    OpOk P G I B0 E a ⟨d, .index t x i, ty, pos, after, gd⟩ true (.int .u8 ((s.getD n.toNat 0).toNat : Int)) E.h := by
  simp only [Bool.and_eq_true, inR, decide_eq_true_eq] at hob
  obtain ⟨⟨hg, hg'⟩, hn0, hn1⟩ := hob
  have h1 : a.eval x = .string ⟨s.toArray⟩ := ev_rel H hf hx hg
  have h2 : a.eval i = .int k n := ev_rel H hf hi hg'
  have hlt : n.toNat < s.length := by omega
  have hget : (⟨s.toArray⟩ : ByteArray)[n.toNat]? = some (s.getD n.toNat 0) := by
    rw [ByteArray.getElem?_lt' _ _ (by simpa [ByteArray.size] using hlt), List.getD_eq_getElem?_getD, List.getElem?_eq_getElem hlt]
    rfl
  refine OpOk.same H (.int .u8 ((s.getD n.toNat 0).toNat : Int)) ?_ rfl
  simp [execOp, h1, h2, Instr.index, run_underlying ht, asIntOf, hn0, hget]

theorem op_extract (H : Good G I B0 E) (hf : FrsOk E F a) (t : Operand) (ix : Nat) {g : Bool} {vs : List AV} {v : AV} (hx : ev G F t = (g, .tup vs)) (hg : g = true) (hv : vs[ix]? = some v) :
    OpOk P G I B0 E a ⟨d, .extract t ix, ty, pos, after, gd⟩ true v E.h := by
  obtain ⟨cs, h1, h2⟩ := ev_rel H hf hx hg
  have key : ∀ (vs : List AV) (cs : List Value), Rels E vs cs → ∀ (ix : Nat) v, vs[ix]? = some v → ∃ c, cs[ix]? = some c ∧ Rel E v c := by
    intro vs
    induction vs with
    | nil => intro cs _ ix v hv; simp at hv
    | cons x xs ih =>
      rintro cs ⟨u, r, rfl, hu, hr⟩ ix v hv
      cases ix with
      | zero => simp only [List.getElem?_cons_zero, Option.some.injEq] at hv; subst hv; exact ⟨u, rfl, hu⟩
      | succ ix => exact ih r hr ix v (by simpa using hv)
  obtain ⟨c, k1, k2⟩ := key vs cs.toList h2 ix v hv
  refine OpOk.same H c ?_ k2
  have k1' : cs[ix]? = some c := by simpa using k1
  simp [execOp, h1, Instr.extract, k1']

theorem op_len_str (H : Good G I B0 E) (hf : FrsOk E F a) (x : Operand) (t : TypeId) (ht : P.underlying t = some .string) {g : Bool} {s : List UInt8} (hx : ev G F x = (g, .str s)) (hg : g = true) :
    OpOk P G I B0 E a ⟨d, .call { callee := .builtin .len, args := #[x], argTypes := #[t] }, ty, pos, after, gd⟩ true (.int .i64 s.length) E.h := by
  have h1 : a.eval x = .string ⟨s.toArray⟩ := ev_rel H hf hx hg
  refine OpOk.same H (.int .i64 s.length) ?_ rfl
  simp [execOp, resolve, invoke, builtin, h1, run_len_string, ht, goInt, ByteArray.size]

theorem op_len_sl (H : Good G I B0 E) (hf : FrsOk E F a) (x : Operand) (t : TypeId) {e : TypeId} (ht : P.underlying t = some (.slice e)) {g : Bool} {sz : Nat} {es : List (List AV)} {own : Option Nat} (hx : ev G F x = (g, .sl sz es own)) (hg : g = true) :
    OpOk P G I B0 E a ⟨d, .call { callee := .builtin .len, args := #[x], argTypes := #[t] }, ty, pos, after, gd⟩ true (.int .i64 es.length) E.h := by
  obtain ⟨⟨A, cap, h1, _⟩, _⟩ := ev_rel H hf hx hg
  refine OpOk.same H (.int .i64 es.length) ?_ rfl
  simp [execOp, resolve, invoke, builtin, h1, Builtin.len_, run_underlying ht, goInt]

theorem op_max (H : Good G I B0 E) (hf : FrsOk E F a) (x y : Operand) (ts : Array TypeId) {g g' : Bool} {k k' : IntKind} {m n : Int} (hx : ev G F x = (g, .int k m)) (hy : ev G F y = (g', .int k' n))
    (hob : (g && g' && decide (k = k')) = true) :
    OpOk P G I B0 E a ⟨d, .call { callee := .builtin .max, args := #[x, y], argTypes := ts }, ty, pos, after, gd⟩ true (.int k (max m n)) E.h := by
  simp only [Bool.and_eq_true, decide_eq_true_eq] at hob
  have h1 : a.eval x = .int k m := ev_rel H hf hx hob.1.1
  have h2 : a.eval y = .int k' n := ev_rel H hf hy hob.1.2
  refine OpOk.same H (.int k (max m n)) ?_ rfl
  have : (if n > m then n else m) = max m n := by split <;> omega
  simp only [execOp, resolve, List.map_toArray, List.map_cons, List.map_nil, h1, h2, Sem.run_bind, Sem.run_pure, Result.andThen_ok, invoke, builtin, run_max_int2, this]

theorem op_min (H : Good G I B0 E) (hf : FrsOk E F a) (x y : Operand) (ts : Array TypeId) {g g' : Bool} {k k' : IntKind} {m n : Int} (hx : ev G F x = (g, .int k m)) (hy : ev G F y = (g', .int k' n))
    (hob : (g && g' && decide (k = k')) = true) :
    OpOk P G I B0 E a ⟨d, .call { callee := .builtin .min, args := #[x, y], argTypes := ts }, ty, pos, after, gd⟩ true (.int k (min m n)) E.h := by
  simp only [Bool.and_eq_true, decide_eq_true_eq] at hob
  have h1 : a.eval x = .int k m := ev_rel H hf hx hob.1.1
  have h2 : a.eval y = .int k' n := ev_rel H hf hy hob.1.2
  refine OpOk.same H (.int k (min m n)) ?_ rfl
  have : (if n < m then n else m) = min m n := by split <;> omega
  simp only [execOp, resolve, List.map_toArray, List.map_cons, List.map_nil, h1, h2, Sem.run_bind, Sem.run_pure, Result.andThen_ok, invoke, builtin, run_min_int2, this]

end
end Go.Ai
