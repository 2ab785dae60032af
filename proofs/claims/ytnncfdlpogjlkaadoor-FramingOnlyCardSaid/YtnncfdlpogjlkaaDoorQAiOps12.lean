/-
  Walks along a string's runes.
-/
import Derived.Test.YtnncfdlpogjlkaaDoorQAiOps11
import Derived.Laws.RangeAny
namespace Go.Ai
set_option linter.unusedVariables false
set_option linter.unusedSimpArgs false
set_option linter.unnecessarySimpa false
open Go.RowKit

section
variable {G : Nat → Option (List AV)} {I : World → Prop} {B0 : Nat} {E : Env}
variable {P : Program} {F : Fr} {a : Act} {d : Option Tmp} {ty : TypeId} {pos : String} {after : Array Edge} {gd : Option (Nat × Bool)}

theorem op_range (hI : ∀ w w', I w → Below B0 w w' → I w') (H : Good G I B0 E) (hf : FrsOk E F a) (t : TypeId) (x : Operand) (ht : P.underlying t = some .string) {g : Bool} {s : List UInt8}
    (hx : ev G F x = (g, .str s)) (hob : g = true) :
    OpOk P G I B0 E a ⟨d, .range t x, ty, pos, after, gd⟩ true (.itr E.h.length) (E.h ++ [.iter s 0]) := by
  have hv : a.eval x = .string ⟨s.toArray⟩ := ev_rel H hf hx hob
  have hrun := run_range_string (P := P) E.w t ⟨s.toArray⟩ ht
  have hB : Below E.w.heap.size E.w (E.w.iter ⟨s.toArray⟩ 0) := (Below.refl _ _).alloc (Nat.le_refl _) _
  have S := step_iter hI H (w' := E.w.iter ⟨s.toArray⟩ 0) (s := s) (p := 0) hB (World.iter_heap _ _ _)
  refine ⟨.pointer (some ⟨E.w.heap.size, 0, none⟩), _, .inl ?_, S, rfl, fun _ => ⟨s, 0, E.w.heap.size, by simp, upd_same _ _ _, rfl⟩, fun h => by cases h⟩
  simp only [execOp, hv, Sem.run_bind, hrun]
  rfl

theorem run_next_at (w : World) (g : Nat) (s : ByteArray) (p : Nat) (ty : TypeId) (hg : w.heap[g]? = some (.stringIter s p)) (h : p < s.size) :
    (Instr.next (.pointer (some ⟨g, 0, none⟩)) true ty).run P w =
      .ok (.tuple #[.bool true, .int .i64 p, .int .i32 (Utf8.decode s p).1]) { w with heap := w.heap.setIfInBounds g (.stringIter s (p + (Utf8.decode s p).2)) } := by
  simp only [Instr.next, getObj, setObj, Sem.run_bind, Sem.run, hg, Result.andThen, h, if_true]
  simp [goInt]
theorem run_next_stop (w : World) (g : Nat) (s : ByteArray) (p : Nat) (ty : TypeId) (hg : w.heap[g]? = some (.stringIter s p)) (h : ¬ p < s.size) :
    (Instr.next (.pointer (some ⟨g, 0, none⟩)) true ty).run P w = .ok (.tuple #[.bool false]) w := by
  simp [Instr.next, getObj, Sem.run, hg, h]

theorem op_next (hI : ∀ w w', I w → Below B0 w w' → I w') (H : Good G I B0 E) (hf : FrsOk E F a) (it : Operand) {g : Bool} {b p : Nat} {s : List UInt8}
    (hx : ev G F it = (g, .itr b)) (hob : g = true) (hb : E.h[b]? = some (.iter s p)) (hp : p < s.length) :
    OpOk P G I B0 E a ⟨d, .next it true, ty, pos, after, gd⟩ true (.tup [.bool true, .int .i64 p, .int .i32 (Utf8.decode ⟨s.toArray⟩ p).1]) (E.h.set b (.iter s (p + (Utf8.decode ⟨s.toArray⟩ p).2))) := by
  obtain ⟨s', p', gg, h1, h2, hv⟩ := ev_rel H hf hx hob
  rw [hb] at h1
  injection h1 with h1
  injection h1 with h1 h1'
  subst h1; subst h1'
  obtain ⟨gg', k1, k2, k3⟩ := H.blk b _ hb
  rw [h2] at k1
  injection k1 with k1
  subst k1
  have hlt := (Array.getElem?_eq_some_iff.1 k3).1
  have hrun := run_next_at (P := P) E.w gg ⟨s.toArray⟩ p ty k3 (by simpa [ByteArray.size] using hp)
  have S := step_next hI H (w' := { E.w with heap := E.w.heap.setIfInBounds gg (.stringIter ⟨s.toArray⟩ (p + (Utf8.decode ⟨s.toArray⟩ p).2)) }) (p' := p + (Utf8.decode ⟨s.toArray⟩ p).2) hb h2 k3
    ⟨rfl, rfl, rfl, by simp, fun k hk hne => by
      have : gg ≠ k := fun e => hne (by rw [e])
      show (E.w.heap.setIfInBounds gg _)[k]? = _
      rw [Array.getElem?_setIfInBounds_ne this]⟩ (by simp) (by
      show (E.w.heap.setIfInBounds gg _)[gg]? = _
      rw [Array.getElem?_setIfInBounds_self_of_lt hlt])
  refine ⟨.tuple #[.bool true, .int .i64 p, .int .i32 (Utf8.decode ⟨s.toArray⟩ p).1], _, .inl ?_, S, rfl, fun _ => ⟨_, rfl, _, _, rfl, rfl, _, _, rfl, rfl, _, _, rfl, rfl, rfl⟩, fun h => by cases h⟩
  simp only [execOp, hv, Sem.run_bind, hrun]
  rfl

theorem op_next_stop (H : Good G I B0 E) (hf : FrsOk E F a) (it : Operand) {g : Bool} {b p : Nat} {s : List UInt8}
    (hx : ev G F it = (g, .itr b)) (hob : g = true) (hb : E.h[b]? = some (.iter s p)) (hp : ¬ p < s.length) :
    OpOk P G I B0 E a ⟨d, .next it true, ty, pos, after, gd⟩ true (.tup [.bool false]) E.h := by
  obtain ⟨s', p', gg, h1, h2, hv⟩ := ev_rel H hf hx hob
  rw [hb] at h1
  injection h1 with h1
  injection h1 with h1 h1'
  subst h1; subst h1'
  obtain ⟨gg', k1, k2, k3⟩ := H.blk b _ hb
  rw [h2] at k1
  injection k1 with k1
  subst k1
  have hrun := run_next_stop (P := P) E.w gg ⟨s.toArray⟩ p ty k3 (by simpa [ByteArray.size] using hp)
  refine OpOk.same H (.tuple #[.bool false]) ?_ ⟨_, rfl, _, _, rfl, rfl, rfl⟩
  simp only [execOp, hv, Sem.run_bind, hrun]
  rfl
end
end Go.Ai
