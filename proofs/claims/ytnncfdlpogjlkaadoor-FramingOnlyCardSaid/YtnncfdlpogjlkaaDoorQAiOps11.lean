/-
  Slices that the call may write into: bytes of a string, and back.
-/
import Derived.Test.YtnncfdlpogjlkaaDoorQAiOps10
import Derived.Laws.IdiomStrings
import Derived.Laws.MakeOwn
namespace Go.Ai
set_option linter.unusedVariables false
set_option linter.unusedSimpArgs false
set_option linter.unnecessarySimpa false
open Go.RowKit

section
variable {G : Nat → Option (List AV)} {I : World → Prop} {B0 : Nat} {E : Env}
variable {P : Program} {F : Fr} {a : Act} {d : Option Tmp} {ty : TypeId} {pos : String} {after : Array Edge} {gd : Option (Nat × Bool)}

theorem op_str_bytes (hI : ∀ w w', I w → Below B0 w w' → I w') (H : Good G I B0 E) (hf : FrsOk E F a) (src dst e : TypeId) (x : Operand) (hs : P.underlying src = some .string) (hd : P.underlying dst = some (.slice e)) (he : P.underlying e = some (.int .u8)) {g : Bool} {l : List UInt8}
    (hx : ev G F x = (g, .str l)) (hob : (g && Nat.ble l.length 9223372036854775807) = true) :
    OpOk P G I B0 E a ⟨d, .convert src dst x, ty, pos, after, gd⟩ true (.osl E.h.length 0 l.length 1) (E.h ++ [.mem e (l.map fun b => .int .u8 (b.toNat : Int))]) := by
  simp only [Bool.and_eq_true] at hob
  have hv : a.eval x = .string ⟨l.toArray⟩ := ev_rel H hf hx hob.1
  have hle : l.length ≤ 9223372036854775807 := Nat.le_of_ble_eq_true hob.2
  have hsz : (⟨l.toArray⟩ : ByteArray).size = l.length := by simp [ByteArray.size]
  have hrun := run_bytes_of_string (P := P) E.w src dst e ⟨l.toArray⟩ hs hd he
  have hge := grownCap_ge E.w (⟨l.toArray⟩ : ByteArray).size 0 e
  have hcm := grownCap_le_maxLen E.w (⟨l.toArray⟩ : ByteArray).size 0 e (by rw [hsz]; unfold maxLen; omega)
  generalize hcap : grownCap E.w (⟨l.toArray⟩ : ByteArray).size 0 e = cap at hrun hge hcm
  have hrow : (bytesRow ⟨l.toArray⟩ cap).size = cap := by
    simp only [bytesRow, Array.size_append, Array.size_map, Array.size_replicate, List.size_toArray, hsz]
    omega
  rw [hrow] at hrun
  have hB : Below E.w.heap.size E.w (E.w.drew.alloc (.cells (bytesRow ⟨l.toArray⟩ cap) e (cap, cap + 1))) := ((Below.refl _ _).drew).alloc (Nat.le_refl _) _
  have hnew : (E.w.drew.alloc (.cells (bytesRow ⟨l.toArray⟩ cap) e (cap, cap + 1))).heap[E.w.heap.size]? = some (.cells (bytesRow ⟨l.toArray⟩ cap) e (cap, cap + 1)) := heap_alloc_new E.w.drew _
  have S := step_mem hI H (w' := E.w.drew.alloc (.cells (bytesRow ⟨l.toArray⟩ cap) e (cap, cap + 1))) (cs := l.map fun b => AV.int .u8 (b.toNat : Int)) (t := e) hB hnew (by rw [hrow]; simp; omega)
    (fun j hj => by
      simp only [List.length_map] at hj
      simp only [World.frozen?, hnew]
      have : ¬cap ≤ j := by omega
      simp [this])
    (fun j y hy => by
      simp only [List.getElem?_map, Option.map_eq_some_iff] at hy
      obtain ⟨b, hb, rfl⟩ := hy
      have hj : j < l.length := (List.getElem?_eq_some_iff.1 hb).1
      have := bytesRow_at ⟨l.toArray⟩ cap j (by simpa using hj)
      refine ⟨_, this, rfl, ?_⟩
      have hbb : l.toArray[j]'(by simpa using hj) = b := by
        have := (List.getElem?_eq_some_iff.1 hb).2
        simpa using this
      show Value.int .u8 ((l.toArray[j]'(by simpa using hj)).toNat : Int) = _
      rw [hbb])
  refine ⟨.slice (some ⟨E.w.heap.size, 0, none⟩) (⟨l.toArray⟩ : ByteArray).size cap, _, .inl ?_, S, rfl, fun _ => ⟨e, l.map fun b => AV.int .u8 (b.toNat : Int), E.w.heap.size, cap, by simp, upd_same _ _ _, by rw [hsz], by omega, hcm, by simp⟩, fun h => by cases h⟩
  simp only [execOp, hv, Sem.run_bind, hrun]
  rfl

theorem cellsB_ok : ∀ {cs : List AV}, cellsB cs = true → bytesA (cs.map fun c => [c]) = some (cs.map cellV)
  | [], _ => rfl
  | c :: cs, h => by
    simp only [cellsB, List.all_cons, Bool.and_eq_true] at h
    have ih := cellsB_ok (cs := cs) h.2
    have h1 := h.1
    unfold cellB at h1
    split at h1
    · rename_i n
      simp only [List.map_cons, bytesA, byteA, ih, h1, cond_true, cellV]
    · cases h1

theorem op_make (hI : ∀ w w', I w → Below B0 w w' → I w') (H : Good G I B0 E) (hf : FrsOk E F a) (t e : TypeId) (l c : Operand) (ht : P.underlying t = some (.slice e)) {i : TypeInfo} (hi : P.info? e = some i) {g g' : Bool} {k k' : IntKind} {n m : Int}
    (hl : ev G F l = (g, .int k n)) (hc : ev G F c = (g', .int k' m)) {z : Value} (hz : i.zero = some z)
    (hob : (g && g' && decide (0 ≤ n) && decide (n = m) && decide ((i.bytes : Int) * m ≤ 281474976710656) && decide (m ≤ 9223372036854775807) && Nat.beq i.size 1 && Nat.beq z.cells.size 1 && z.cells.toList.all (·.oneCell')) = true) :
    OpOk P G I B0 E a ⟨d, .makeSlice t l c, ty, pos, after, gd⟩ true (.osl E.h.length 0 n.toNat 1) (E.h ++ [.mem e (List.replicate n.toNat (match z.cells.toList with | [v] => ofConst v | _ => .top))]) := by
  simp only [Bool.and_eq_true, decide_eq_true_eq] at hob
  obtain ⟨⟨⟨⟨⟨⟨⟨⟨hg, hg'⟩, h0⟩, rfl⟩, hby⟩, h63⟩, hsz⟩, hzs⟩, hone⟩ := hob
  have hsz := Nat.eq_of_beq_eq_true hsz
  have hzs := Nat.eq_of_beq_eq_true hzs
  have hv1 : a.eval l = .int k n := ev_rel H hf hl hg
  have hv2 : a.eval c = .int k' n := ev_rel H hf hc hg'
  obtain ⟨v, hv⟩ : ∃ v, z.cells.toList = [v] := by
    have : z.cells.toList.length = 1 := by simpa using hzs
    exact List.length_eq_one_iff.1 this
  have hzc : z.cells = #[v] := by rw [← Array.toArray_toList (xs := z.cells), hv]
  have hrun := run_make (P := P) E.w t e i z ht hi hz k k' n n h0 (Int.le_refl _) hby h63
  rw [hsz, Nat.mul_one] at hrun
  have hcell : ∀ j, j < n.toNat → (madeCells z.cells n.toNat)[j]? = some v := fun j hj => by
    simp [madeCells, hzc, hj, Nat.mod_one]
  have hB : Below E.w.heap.size E.w (E.w.alloc (.cells (madeCells z.cells n.toNat) e)) := (Below.refl _ _).alloc (Nat.le_refl _) _
  have hnew : (E.w.alloc (.cells (madeCells z.cells n.toNat) e)).heap[E.w.heap.size]? = some (.cells (madeCells z.cells n.toNat) e) := heap_alloc_new E.w _
  rw [hv] at hone
  have hv1c : v.oneCell' = true := by simpa using hone
  have S := step_mem hI H (w' := E.w.alloc (.cells (madeCells z.cells n.toNat) e)) (cs := List.replicate n.toNat (ofConst v)) (c := madeCells z.cells n.toNat) (t := e) (fr := (0, 0)) hB hnew (by simp [size_madeCells])
    (fun j _ => World.frozen?_alloc_new _ _ _ _)
    (fun j y hy => by
      simp only [List.length_replicate, List.getElem?_replicate] at hy
      split at hy
      · rename_i hj
        injection hy with hy
        subst hy
        exact ⟨v, hcell j hj, hv1c, rel_ofConst _ v⟩
      · cases hy)
  rw [hv]
  refine ⟨.slice (some ⟨E.w.heap.size, 0, none⟩) n.toNat n.toNat, _, .inl ?_, S, rfl, fun _ => ⟨e, List.replicate n.toNat (ofConst v), E.w.heap.size, n.toNat, by simp, upd_same _ _ _, rfl, Nat.le_refl _, by unfold maxLen; omega, by simp⟩, fun h => by cases h⟩
  simp only [execOp, hv1, hv2, Sem.run_bind, hrun]
  rfl

theorem op_osl_str (H : Good G I B0 E) (hf : FrsOk E F a) (src dst e : TypeId) (x : Operand) (hs : P.underlying src = some (.slice e)) (he : P.underlying e = some (.int .u8)) (hd : P.underlying dst = some .string) {g : Bool} {b off len : Nat} {t : TypeId} {cs : List AV} {l : List UInt8}
    (hx : ev G F x = (g, .osl b off len 1)) (hg : g = true) (hb : E.h[b]? = some (.mem t cs)) (hl : bytesA (((cs.drop off).take len).map fun c => [c]) = some l) :
    OpOk P G I B0 E a ⟨d, .convert src dst x, ty, pos, after, gd⟩ true (.str l) E.h := by
  obtain ⟨t', cs', gg, cap, h1, h2, h3, h4, h5, h6⟩ := ev_rel H hf hx hg
  rw [hb] at h1
  injection h1 with h1
  injection h1 with h1 h1'
  subst h1; subst h1'
  have hes := bytesA_eq hl
  have hcs : (cs.drop off).take len = l.map fun b => AV.int .u8 (b.toNat : Int) := by
    have := congrArg (List.map fun r => r.headD AV.top) hes
    simpa [List.map_map, Function.comp_def] using this
  have hlen : len = l.length := by
    have := congrArg List.length hcs
    simp at this
    omega
  have hrd := mem_rdb H hb h2 (o := off)
  refine OpOk.same H (.string ⟨l.toArray⟩) ?_ rfl
  have hload : (loadCells ⟨gg, off, none⟩ len).run P E.w = .ok ((l.map fun b => (b.toNat : Int)).map (Value.int .u8)).toArray E.w := by
    have := run_firstCells_some (P := P) E.w 1 len ⟨gg, off, none⟩ len cap ((l.map fun b => (b.toNat : Int)).map (Value.int .u8)) (by simp [hlen]) (fun j v hv => by
      simp only [List.getElem?_map, Option.map_eq_some_iff] at hv
      obtain ⟨z, ⟨bb, hbj, rfl⟩, rfl⟩ := hv
      have hjl : j < len := by rw [hlen]; exact (List.getElem?_eq_some_iff.1 hbj).1
      have hcj : (cs.drop off)[j]? = some (.int .u8 (bb.toNat : Int)) := by
        have := congrArg (·[j]?) hcs
        simpa [List.getElem?_take, hjl, hbj] using this
      obtain ⟨u, p1, _, p4⟩ := hrd j _ hcj
      simp only [Rel] at p4
      rw [p1, p4])
    simpa [Builtin.firstCells] using this
  have hrun : (Conv.bytesToString (a.eval x)).run P E.w = .ok (.string ⟨l.toArray⟩) E.w := by
    rw [h3, run_bytesToString E.w _ len cap _ hload, fold_bytes]
    have h0 : ByteArray.empty.data = (#[] : Array UInt8) := rfl
    rw [h0, Array.empty_append]
  have : (convert src dst (a.eval x)).run P E.w = .ok (.string ⟨l.toArray⟩) E.w := by
    rw [h3] at hrun ⊢
    simpa [convert, run_underlying hs, run_underlying hd, run_underlying he] using hrun
  simp only [execOp, Sem.run_bind, this]
  rfl

theorem op_len_osl (H : Good G I B0 E) (hf : FrsOk E F a) (x : Operand) (t : TypeId) {e : TypeId} (ht : P.underlying t = some (.slice e)) {g : Bool} {b off len sz : Nat} (hx : ev G F x = (g, .osl b off len sz)) (hg : g = true) :
    OpOk P G I B0 E a ⟨d, .call { callee := .builtin .len, args := #[x], argTypes := #[t] }, ty, pos, after, gd⟩ true (.int .i64 len) E.h := by
  obtain ⟨t', cs', gg, cap, h1, h2, h3, h4, h5, h6⟩ := ev_rel H hf hx hg
  refine OpOk.same H (.int .i64 len) ?_ rfl
  simp [execOp, resolve, invoke, builtin, h3, Builtin.len_, run_underlying ht, goInt]
end
end Go.Ai
