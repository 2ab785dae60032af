/-
  More operations: comparisons of pointers, functions, interfaces with nil; conversions by way of unsafe pointers; places in arrays.
-/
import Derived.Test.YtnncfdlpogjlkaaDoorQAiOps6
import Derived.Lib.Builder
namespace Go.Ai
set_option linter.unusedVariables false
set_option linter.unusedSimpArgs false
set_option linter.unnecessarySimpa false
open Go.RowKit

section
variable {G : Nat → Option (List AV)} {I : World → Prop} {B0 : Nat} {E : Env}
variable {P : Program} {F : Fr} {a : Act} {d : Option Tmp} {ty : TypeId} {pos : String} {after : Array Edge} {gd : Option (Nat × Bool)}

inductive CmpK (P : Program) (t : TypeId) : AV → Prop
  | bool (b : Bool) (h : P.underlying t = some .bool) : CmpK P t (.bool b)
  | nilp (e : TypeId) (h : P.underlying t = some (.pointer e)) : CmpK P t .nilp
  | ptr (b o : Nat) (e : TypeId) (i : TypeInfo) (h : P.underlying t = some (.pointer e)) (hi : P.info? e = some i) (hs : i.size ≠ 0) : CmpK P t (.ptr b o)
  | ro (cs : List AV) (e : TypeId) (h : P.underlying t = some (.pointer e)) : CmpK P t (.ro cs)
  | func (x y z) (v : AV) (hv : v = .nilf ∨ ∃ f c k, v = .fn f c k) (h : P.underlying t = some (.func x y z)) : CmpK P t v
  | iface (m) (v : AV) (hv : v = .nili ∨ ∃ t x, v = .iface t x) (h : P.underlying t = some (.interface m)) : CmpK P t v

theorem cmpK_of {t : TypeId} {x : AV} (h : cmpOk P t x = true) : CmpK P t x := by
  unfold cmpOk at h
  split at h
  · rename_i b hu; exact .bool b hu
  · rename_i e hu; exact .nilp e hu
  · rename_i e b o hu
    cases hi : P.info? e with
    | none => rw [hi] at h; cases h
    | some i =>
      rw [hi] at h
      refine .ptr b o e i hu hi fun h0 => ?_
      simp [h0] at h
  · rename_i e cs hu; exact .ro cs e hu
  · rename_i p q r hu; exact .func p q r _ (.inl rfl) hu
  · rename_i p q r f c k hu; exact .func p q r _ (.inr ⟨f, c, k, rfl⟩) hu
  · rename_i m hu; exact .iface m _ (.inl rfl) hu
  · rename_i m t' x' hu; exact .iface m _ (.inr ⟨t', x', rfl⟩) hu
  · cases h

theorem cmp_ok {t : TypeId} {x y : AV} {b : Bool} {u w : Value} (n : Nat) (h : cmpA x y = some b) (hx : Rel E x u) (hy : Rel E y w) (h1 : CmpK P t x) (h2 : CmpK P t y) :
    (Op.equalIn (n + 1) t u w).run P E.w = .ok b E.w := by
  cases h1 with
  | bool p hu =>
    cases y <;> simp [cmpA] at h
    simp only [Rel] at hx hy
    subst hx; subst hy
    simp [Op.equalIn, run_underlying hu, h]
  | nilp e hu =>
    simp only [Rel] at hx
    subst hx
    cases y <;> simp [cmpA] at h
    · simp only [Rel] at hy; subst hy; subst h; simp [Op.equalIn, run_underlying hu]
    · obtain ⟨_, cs, g, _, _, rfl⟩ := hy; subst h; simp [Op.equalIn, run_underlying hu]
    · obtain ⟨g, rfl, _⟩ := hy; subst h; simp [Op.equalIn, run_underlying hu]
  | ptr p o e i hu hi hs =>
    obtain ⟨_, cs, g, _, hg, rfl⟩ := hx
    cases y <;> simp only [cmpA] at h
    case nilp => simp only [Rel] at hy; subst hy; cases h; simp [Op.equalIn, run_underlying hu]
    case ptr p' o' =>
      obtain ⟨_, cs', g', _, hg', rfl⟩ := hy
      cases hb : Nat.beq p p' with
      | false => rw [hb] at h; cases h
      | true =>
        rw [hb] at h
        have := Nat.eq_of_beq_eq_true hb
        subst this
        rw [hg] at hg'
        injection hg' with hg'
        subst hg'
        simp only [cond_true, Option.some.injEq] at h
        subst h
        simp [Op.equalIn, run_underlying hu, sizeOf, typeInfo, hi, hs, sameAddr]
        cases hb2 : Nat.beq o o' with
        | true => simp [Nat.eq_of_beq_eq_true hb2]
        | false => simp; intro he; subst he; simp [Nat.beq_refl] at hb2
    all_goals cases h
  | ro cs e hu =>
    obtain ⟨g, rfl, _⟩ := hx
    cases y <;> simp [cmpA] at h
    simp only [Rel] at hy; subst hy; subst h; simp [Op.equalIn, run_underlying hu]
  | func p q r _ hv hu =>
    rcases hv with rfl | ⟨f, c, k, rfl⟩
    · simp only [Rel] at hx
      subst hx
      cases y <;> simp [cmpA] at h
      · obtain ⟨a1, a2, rfl, _⟩ := hy; subst h; simp [Op.equalIn, run_underlying hu]
      · simp only [Rel] at hy; subst hy; subst h; simp [Op.equalIn, run_underlying hu]
    · obtain ⟨a1, a2, rfl, _⟩ := hx
      cases y <;> simp [cmpA] at h
      simp only [Rel] at hy; subst hy; subst h; simp [Op.equalIn, run_underlying hu]
  | iface m _ hv hu =>
    rcases hv with rfl | ⟨t', v, rfl⟩
    · simp only [Rel] at hx
      subst hx
      cases y <;> simp [cmpA] at h
      · obtain ⟨v', rfl, _⟩ := hy; subst h; simp [Op.equalIn, run_underlying hu]
      · simp only [Rel] at hy; subst hy; subst h; simp [Op.equalIn, run_underlying hu]
    · obtain ⟨v', rfl, _⟩ := hx
      cases y <;> simp [cmpA] at h
      simp only [Rel] at hy; subst hy; subst h; simp [Op.equalIn, run_underlying hu]

theorem guard_easy {op : BinOp} {t : TypeId} {u w : Value} {px py : Operand} (h1 : ∀ p, u ≠ .agg p) (h2 : (u = .nilIface ∧ w = .nilIface) → (isC px || isC py) = true) :
    (eqGuard op t px py u w).run P E.w = .ok () E.w := by
  unfold eqGuard
  cases op
  all_goals try rfl
  all_goals
    simp only [Bool.not_true, Bool.false_eq_true, if_false]
    split
    · have := h2 ⟨rfl, rfl⟩
      rw [if_pos (by cases px <;> cases py <;> simp_all [isC])]
      rfl
    · exact absurd rfl (h1 _)
    · rfl

theorem cmp_guard {op : BinOp} {t : TypeId} {x y : AV} {u w : Value} {px py : Operand} {b : Bool} (h : cmpA x y = some b) (hx : Rel E x u) (hy : Rel E y w) (hc : (isC px || isC py || !bothNil x y) = true) :
    (eqGuard op t px py u w).run P E.w = .ok () E.w := by
  refine guard_easy (fun p hp => ?_) (fun hn => ?_)
  · subst hp
    unfold cmpA at h
    split at h
    all_goals first
      | (cases h; done)
      | (simp only [Rel] at hx; cases hx; done)
      | (obtain ⟨_, _, _, _, _, hx⟩ := hx; cases hx; done)
      | (obtain ⟨_, hx, _⟩ := hx; cases hx; done)
      | (obtain ⟨_, _, hx, _⟩ := hx; cases hx; done)
  · obtain ⟨rfl, rfl⟩ := hn
    unfold cmpA at h
    split at h
    all_goals first
      | (cases h; done)
      | (simp only [Rel] at hx; cases hx; done)
      | (obtain ⟨_, _, _, _, _, hx⟩ := hx; cases hx; done)
      | (obtain ⟨_, hx, _⟩ := hx; cases hx; done)
      | (obtain ⟨_, _, hx, _⟩ := hx; cases hx; done)
      | (obtain ⟨_, hy, _⟩ := hy; cases hy; done)
      | (simpa [bothNil] using hc)

def plainV : Value → Bool
  | .int _ _ | .float _ _ | .complex _ _ _ | .string _ => false
  | _ => true

theorem binOp_eql {t : TypeId} {u w : Value} (h : plainV u = true) : binOp .eql t u w = (do pure (.bool (← Op.equal t u w))) := by
  cases u <;> first | (simp [plainV] at h; done) | rfl
theorem binOp_neq {t : TypeId} {u w : Value} (h : plainV u = true) : binOp .neq t u w = (do pure (.bool !(← Op.equal t u w))) := by
  cases u <;> first | (simp [plainV] at h; done) | rfl

theorem cmpK_plain {t : TypeId} {x : AV} {u : Value} (h : CmpK P t x) (hx : Rel E x u) : plainV u = true := by
  cases h with
  | bool p _ => simp only [Rel] at hx; subst hx; rfl
  | nilp _ _ => simp only [Rel] at hx; subst hx; rfl
  | ptr _ _ _ _ _ _ _ => obtain ⟨_, _, _, _, _, rfl⟩ := hx; rfl
  | ro _ _ _ => obtain ⟨_, rfl, _⟩ := hx; rfl
  | func _ _ _ _ hv _ =>
    rcases hv with rfl | ⟨_, _, _, rfl⟩
    · simp only [Rel] at hx; subst hx; rfl
    · obtain ⟨_, _, rfl, _⟩ := hx; rfl
  | iface _ _ hv _ =>
    rcases hv with rfl | ⟨_, _, rfl⟩
    · simp only [Rel] at hx; subst hx; rfl
    · obtain ⟨_, rfl, _⟩ := hx; rfl

theorem op_cmp (H : Good G I B0 E) (hf : FrsOk E F a) (t u : TypeId) (x y : Operand) {b : Bool} (h : cmpA (ev G F x).2 (ev G F y).2 = some b)
    (hob : ((ev G F x).1 && (ev G F y).1 && cmpOk P t (ev G F x).2 && cmpOk P t (ev G F y).2 && (isC x || isC y || !bothNil (ev G F x).2 (ev G F y).2)) = true) :
    OpOk P G I B0 E a ⟨d, .binOp .eql t x y u, ty, pos, after, gd⟩ true (.bool b) E.h ∧ OpOk P G I B0 E a ⟨d, .binOp .neq t x y u, ty, pos, after, gd⟩ true (.bool !b) E.h := by
  simp only [Bool.and_eq_true] at hob
  obtain ⟨⟨⟨⟨g1, g2⟩, c1⟩, c2⟩, hc⟩ := hob
  have hx := (ev_ok H hf x).1 g1
  have hy := (ev_ok H hf y).1 g2
  have he : (Op.equal t (a.eval x) (a.eval y)).run P E.w = .ok b E.w := cmp_ok 9999 h hx hy (cmpK_of c1) (cmpK_of c2)
  have hg := fun op => cmp_guard (P := P) (op := op) (t := t) (px := x) (py := y) h hx hy hc
  constructor
  · refine OpOk.same H (.bool b) ?_ rfl
    simp only [execOp, Sem.run_bind, hg, Result.andThen_ok, binOp_eql (cmpK_plain (cmpK_of c1) hx), he]
    rfl
  · refine OpOk.same H (.bool !b) ?_ rfl
    simp only [execOp, Sem.run_bind, hg, Result.andThen_ok, binOp_neq (cmpK_plain (cmpK_of c1) hx), he]
    rfl

theorem shape_mem (H : Good G I B0 E) {b g : Nat} {t : TypeId} {cs : List AV} (hb : E.h[b]? = some (.mem t cs)) (hg : E.σ b = some g) : ∃ n, E.w.shape? g = some (t, n) ∧ cs.length ≤ n := by
  obtain ⟨g', c, fr, h1, h2, h3, h4, h5, h6⟩ := H.blk b _ hb
  rw [hg] at h1
  injection h1 with h1
  subst h1
  exact ⟨c.size, by simp [World.shape?, h3], h4⟩

theorem liesAt_self {t : TypeId} (hc : P.cellsOf t ≠ 0) (count : Nat) (hn : 1 ≤ count) : liesAt P P.depth t count 0 t 1 = true := by
  have hd : P.depth = (2 * (P.types.size + Made.depth) + 1) + 1 := rfl
  rw [hd]
  simp only [liesAt, Bool.or_eq_true]
  left
  rw [hd]
  simp [rowAt, hc, hn, sameLayout]

theorem op_to_unsafe (H : Good G I B0 E) (hf : FrsOk E F a) (src dst t : TypeId) (x : Operand) {g : Bool} {b o : Nat} {t0 : TypeId} {cs : List AV} {i : TypeInfo} (hs : P.underlying src = some (.pointer t)) (hd : P.underlying dst = some .unsafePointer)
    (hx : ev G F x = (g, .ptr b o)) (hb : E.h[b]? = some (.mem t0 cs)) (hi : P.info? t = some i) (hob : (g && !Nat.beq i.size 0 && Nat.blt o cs.length) = true) :
    OpOk P G I B0 E a ⟨d, .convert src dst x, ty, pos, after, gd⟩ true (.ptr b o) E.h := by
  simp only [Bool.and_eq_true, Bool.not_eq_true'] at hob
  obtain ⟨⟨hg, hz⟩, ho⟩ := hob
  have hr := ev_rel H hf hx hg
  obtain ⟨_, cs', gg, h1, h2, h3⟩ := id hr
  obtain ⟨n, hsh, hn⟩ := shape_mem H hb h2
  refine OpOk.same H (a.eval x) ?_ hr
  have ho : o < cs.length := Nat.le_of_ble_eq_true ho
  have := Lib.run_to_unsafe (P := P) E.w ⟨gg, o, none⟩ hs hd hi (fun e => by rw [e] at hz; simp at hz) (cells := n) (e := t0) hsh (by simp only; omega)
  simp [execOp, h3, this]

theorem op_from_unsafe (H : Good G I B0 E) (hf : FrsOk E F a) (src dst u : TypeId) (x : Operand) {g : Bool} {b o : Nat} {t : TypeId} {cs : List AV} {i : TypeInfo} (hs : P.underlying src = some .unsafePointer) (hd : P.underlying dst = some (.pointer u))
    (hx : ev G F x = (g, .ptr b o)) (hb : E.h[b]? = some (.mem t cs)) (hi : P.info? u = some i) (hob : (g && Nat.beq t u && Nat.beq o 0 && !Nat.beq i.size 0 && Nat.ble i.size cs.length) = true) :
    OpOk P G I B0 E a ⟨d, .convert src dst x, ty, pos, after, gd⟩ true (.ptr b o) E.h := by
  simp only [Bool.and_eq_true, Bool.not_eq_true'] at hob
  obtain ⟨⟨⟨⟨hg, htu⟩, ho⟩, hz⟩, hle⟩ := hob
  have htu := Nat.eq_of_beq_eq_true htu
  have ho := Nat.eq_of_beq_eq_true ho
  subst htu; subst ho
  have hr := ev_rel H hf hx hg
  obtain ⟨_, cs', gg, h1, h2, h3⟩ := id hr
  obtain ⟨n, hsh, hn⟩ := shape_mem H hb h2
  refine OpOk.same H (a.eval x) ?_ hr
  have hle : i.size ≤ cs.length := Nat.le_of_ble_eq_true hle
  have hc : P.cellsOf t = i.size := by simp [Program.cellsOf, hi]
  have hc0 : P.cellsOf t ≠ 0 := fun e => by rw [hc] at e; rw [e] at hz; simp at hz
  have h1n : 1 ≤ n / P.cellsOf t := Nat.div_pos (by omega) (Nat.pos_of_ne_zero hc0)
  have := Lib.run_from_unsafe (P := P) E.w ⟨gg, 0, none⟩ hs hd hi (cells := n) (e := t) hsh (liesAt_self hc0 _ h1n)
  simp [execOp, h3, this]

theorem op_indexAddr_osl (H : Good G I B0 E) (hf : FrsOk E F a) (t : TypeId) (x i : Operand) {e : TypeId} (ht : P.underlying t = some (.slice e)) {g g' : Bool} {b off len sz : Nat} {k : IntKind} {n : Int}
    (hx : ev G F x = (g, .osl b off len sz)) (hi : ev G F i = (g', .int k n)) (hob : (g && g' && inR n len && Nat.beq sz (P.cellsOf e) && Nat.ble 1 sz) = true) :
    OpOk P G I B0 E a ⟨d, .indexAddr t x i, ty, pos, after, gd⟩ true (.ptr b (off + n.toNat * sz)) E.h := by
  simp only [Bool.and_eq_true, inR, decide_eq_true_eq] at hob
  obtain ⟨⟨⟨⟨hg, hg'⟩, hn0, hn1⟩, hsz⟩, hpos⟩ := hob
  obtain ⟨t0, cs, gg, cap, h1, h2, h3, h4, h5, h6⟩ := ev_rel H hf hx hg
  have h7 : a.eval i = .int k n := ev_rel H hf hi hg'
  have hsz' : P.cellsOf e = sz := (Nat.eq_of_beq_eq_true hsz).symm
  have hpos' : 0 < sz := by have := Nat.le_of_ble_eq_true hpos; omega
  obtain ⟨ii, hii, hiz⟩ := cellsOf_info hsz' hpos'
  refine OpOk.same H (.pointer (some ⟨gg, off + n.toNat * sz, none⟩)) ?_ ⟨t0, cs, gg, h1, h2, rfl⟩
  have hc : 0 ≤ n ∧ n < (len : Int) := ⟨hn0, hn1⟩
  simp [execOp, h3, h7, Instr.indexAt, run_underlying ht, asIntOf, hc, sizeOf, typeInfo, hii, hiz, Addr.add_lit]

theorem op_indexAddr_arr_ro (H : Good G I B0 E) (hf : FrsOk E F a) (t : TypeId) (x i : Operand) {m : Nat} {e : TypeId} (ht : P.underlying t = some (.array m e)) {g g' : Bool} {cs : List AV} {k : IntKind} {n : Int}
    (hx : ev G F x = (g, .ro cs)) (hi : ev G F i = (g', .int k n)) (hob : (g && g' && inR n m && Nat.ble 1 (P.cellsOf e)) = true) :
    OpOk P G I B0 E a ⟨d, .indexAddr t x i, ty, pos, after, gd⟩ true (.ro (cs.drop (n.toNat * P.cellsOf e))) E.h := by
  simp only [Bool.and_eq_true, inR, decide_eq_true_eq] at hob
  obtain ⟨⟨⟨hg, hg'⟩, hn0, hn1⟩, hpos⟩ := hob
  obtain ⟨ad, h1, h2⟩ := ev_rel H hf hx hg
  have h7 : a.eval i = .int k n := ev_rel H hf hi hg'
  have hpos' : 0 < P.cellsOf e := by have := Nat.le_of_ble_eq_true hpos; omega
  obtain ⟨ii, hii, hiz⟩ := cellsOf_info rfl hpos'
  refine OpOk.same H (.pointer (some (ad.add (n.toNat * P.cellsOf e)))) ?_ ⟨_, rfl, ?_⟩
  · have hc : 0 ≤ n ∧ n < (m : Int) := ⟨hn0, hn1⟩
    simp [execOp, h1, h7, Instr.indexAt, run_underlying ht, asIntOf, hc, sizeOf, typeInfo, hii, hiz, Instr.sureAddr]
  · rw [At.iff] at h2 ⊢
    intro j c hj
    rw [List.getElem?_drop] at hj
    obtain ⟨v, q1, q2, q3, q4⟩ := h2 _ c hj
    exact ⟨v, by rw [add_add']; exact q1, q2, by rw [add_block, add_off, Nat.add_assoc]; exact q3, q4⟩

theorem op_indexAddr_arr_ptr (H : Good G I B0 E) (hf : FrsOk E F a) (t : TypeId) (x i : Operand) {m : Nat} {e : TypeId} (ht : P.underlying t = some (.array m e)) {g g' : Bool} {b o : Nat} {k : IntKind} {n : Int}
    (hx : ev G F x = (g, .ptr b o)) (hi : ev G F i = (g', .int k n)) (hob : (g && g' && inR n m && Nat.ble 1 (P.cellsOf e)) = true) :
    OpOk P G I B0 E a ⟨d, .indexAddr t x i, ty, pos, after, gd⟩ true (.ptr b (o + n.toNat * P.cellsOf e)) E.h := by
  simp only [Bool.and_eq_true, inR, decide_eq_true_eq] at hob
  obtain ⟨⟨⟨hg, hg'⟩, hn0, hn1⟩, hpos⟩ := hob
  obtain ⟨t0, cs, gg, h1, h2, h3⟩ := ev_rel H hf hx hg
  have h7 : a.eval i = .int k n := ev_rel H hf hi hg'
  have hpos' : 0 < P.cellsOf e := by have := Nat.le_of_ble_eq_true hpos; omega
  obtain ⟨ii, hii, hiz⟩ := cellsOf_info rfl hpos'
  refine OpOk.same H (.pointer (some ⟨gg, o + n.toNat * P.cellsOf e, none⟩)) ?_ ⟨t0, cs, gg, h1, h2, rfl⟩
  have hc : 0 ≤ n ∧ n < (m : Int) := ⟨hn0, hn1⟩
  simp [execOp, h3, h7, Instr.indexAt, run_underlying ht, asIntOf, hc, sizeOf, typeInfo, hii, hiz, Instr.sureAddr, Addr.add_lit]

end
end Go.Ai
