/-
  Conversions between strings and bytes.
-/
import Derived.Test.YtnncfdlpogjlkaaDoorQAiOps8
import Derived.Laws.BytesString
namespace Go.Ai
set_option linter.unusedVariables false
set_option linter.unusedSimpArgs false
set_option linter.unnecessarySimpa false
open Go.RowKit

theorem byteA_eq {e : List AV} {b : UInt8} (h : byteA e = some b) : e = [.int .u8 (b.toNat : Int)] := by
  unfold byteA at h
  split at h
  · rename_i n
    cases hc : (decide (0 ≤ n) && decide (n < 256)) with
    | false => rw [hc] at h; cases h
    | true =>
      rw [hc] at h
      simp only [cond_true, Option.some.injEq] at h
      simp only [Bool.and_eq_true, decide_eq_true_eq] at hc
      subst h
      have : ((UInt8.ofNat n.toNat).toNat : Int) = n := by
        rw [UInt8.toNat_ofNat']
        omega
      rw [this]
  · cases h

theorem rowB_ok {e : List AV} (h : rowB e = true) : byteA e = some (rowV e) := by
  unfold rowB at h
  split at h
  · rename_i c
    unfold cellB at h
    split at h
    · simp only [byteA, h, cond_true, rowV, cellV]
    · cases h
  · cases h
theorem rowsB_ok : ∀ {es : List (List AV)}, rowsB es = true → bytesA es = some (es.map rowV)
  | [], _ => rfl
  | e :: es, h => by
    simp only [rowsB, List.all_cons, Bool.and_eq_true] at h
    simp only [bytesA, rowB_ok h.1, rowsB_ok (es := es) h.2, List.map_cons]

theorem bytesA_eq : ∀ {es : List (List AV)} {l : List UInt8}, bytesA es = some l → es = l.map fun b => [AV.int .u8 (b.toNat : Int)]
  | [], l, h => by simp only [bytesA, Option.some.injEq] at h; subst h; rfl
  | e :: es, l, h => by
    simp only [bytesA] at h
    split at h
    · rename_i b l' hb hl
      injection h with h
      subst h
      rw [byteA_eq hb, bytesA_eq hl]
      rfl
    · cases h

theorem fold_bytes : ∀ (l : List UInt8) (s : ByteArray), (l.map fun b => (b.toNat : Int)).foldl (fun r n => r.push (UInt8.ofNat n.toNat)) s = ⟨s.data ++ l.toArray⟩
  | [], s => by simp
  | b :: l, s => by
    rw [List.map_cons, List.foldl_cons, fold_bytes l]
    have : UInt8.ofNat ((b.toNat : Int)).toNat = b := by simp
    rw [this]
    simp [ByteArray.push]

section
variable {G : Nat → Option (List AV)} {I : World → Prop} {B0 : Nat} {E : Env}
variable {P : Program} {F : Fr} {a : Act} {d : Option Tmp} {ty : TypeId} {pos : String} {after : Array Edge} {gd : Option (Nat × Bool)}

theorem op_int_str (H : Good G I B0 E) (hf : FrsOk E F a) (src dst : TypeId) (x : Operand) {k0 : IntKind} (hs : P.underlying src = some (.int k0)) (hd : P.underlying dst = some .string) {g : Bool} {k : IntKind} {n : Int}
    (hx : ev G F x = (g, .int k n)) (hg : g = true) : OpOk P G I B0 E a ⟨d, .convert src dst x, ty, pos, after, gd⟩ true (.str (Utf8.encode n).data.toList) E.h := by
  have h : a.eval x = .int k n := ev_rel H hf hx hg
  refine OpOk.same H (.string (Utf8.encode n)) ?_ (by simp [Rel])
  simp [execOp, h, convert, run_underlying hs, run_underlying hd, Conv.intToString]

theorem op_bytes_str (H : Good G I B0 E) (hf : FrsOk E F a) (src dst e : TypeId) (x : Operand) (hs : P.underlying src = some (.slice e)) (he : P.underlying e = some (.int .u8)) (hd : P.underlying dst = some .string) {g : Bool} {sz : Nat} {es : List (List AV)} {own : Option Nat} {l : List UInt8}
    (hx : ev G F x = (g, .sl sz es own)) (hg : g = true) (hb : bytesA es = some l) : OpOk P G I B0 E a ⟨d, .convert src dst x, ty, pos, after, gd⟩ true (.str l) E.h := by
  have hes := bytesA_eq hb
  obtain ⟨⟨A, cap, h1, h2, h3, h4, h5⟩, _⟩ := ev_rel H hf hx hg
  have hlen : es.length = l.length := by rw [hes]; simp
  have hcv : ∀ v : Value, (Conv.bytesToString (a.eval x)).run P E.w = .ok v E.w → (convert src dst (a.eval x)).run P E.w = .ok v E.w := by
    intro v hv
    rw [h1] at hv ⊢
    cases A <;> simpa [convert, run_underlying hs, run_underlying hd, run_underlying he] using hv
  refine OpOk.same H (.string ⟨l.toArray⟩) ?_ rfl
  have hrun : (Conv.bytesToString (a.eval x)).run P E.w = .ok (.string ⟨l.toArray⟩) E.w := by
    rw [h1]
    cases A with
    | none =>
      have hes0 : es = [] := by
        by_cases hne : es = []
        · exact hne
        · obtain ⟨ad, hA, _⟩ := h5 hne
          cases hA
      have : l = [] := List.eq_nil_of_length_eq_zero (by rw [← hlen, hes0]; rfl)
      subst this
      rfl
    | some ad =>
      have hload : (loadCells ad es.length).run P E.w = .ok ((l.map fun b => (b.toNat : Int)).map (Value.int .u8)).toArray E.w := by
        by_cases hne : es = []
        · have : l = [] := List.eq_nil_of_length_eq_zero (by rw [← hlen, hne]; rfl)
          subst this; subst hne
          simp [loadCells, loadCellsFrom]
        · obtain ⟨ad', hA, hrow⟩ := h5 hne
          injection hA with hA
          subst hA
          have hfl : es.flatten = l.map fun b => AV.int .u8 (b.toNat : Int) := by
            rw [hes]
            clear hrow hne h5 h4 h1 h2 hlen hes hb hcv hx
            induction l with
            | nil => rfl
            | cons b l ih => simp [ih]
          rw [Rows.iff, hfl, At.iff] at hrow
          have := run_firstCells_some (P := P) E.w 1 es.length ad es.length cap ((l.map fun b => (b.toNat : Int)).map (Value.int .u8)) (by simp [hlen]) (fun j v hv => by
            simp only [List.getElem?_map, Option.map_eq_some_iff] at hv
            obtain ⟨z, ⟨b, hbj, rfl⟩, rfl⟩ := hv
            obtain ⟨u, p1, _, _, p4⟩ := hrow j (.int .u8 (b.toNat : Int)) (by simp [hbj])
            simp only [Rel] at p4
            rw [p1, p4])
          simpa [Builtin.firstCells] using this
      rw [run_bytesToString E.w ad es.length cap _ hload, fold_bytes]
      have h0 : ByteArray.empty.data = (#[] : Array UInt8) := rfl
      rw [h0, Array.empty_append]
  have := hcv _ hrun
  simp only [execOp, Sem.run_bind, this]
  rfl
end
end Go.Ai
