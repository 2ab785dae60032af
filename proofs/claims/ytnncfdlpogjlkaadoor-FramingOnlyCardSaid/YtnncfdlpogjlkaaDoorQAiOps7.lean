/-
  All operations together.
-/
import Derived.Test.YtnncfdlpogjlkaaDoorQAiOps12
namespace Go.Ai
set_option linter.unusedVariables false
set_option linter.unusedSimpArgs false
set_option linter.unnecessarySimpa false
open Go.RowKit

section
variable {I : World → Prop} {B0 : Nat} {E : Env}

theorem some3 {ob ob' g g' : Bool} {v v' : AV} {h h' : Hp} (e : (some (ob, (g, v), h) : OpR) = some (ob', (g', v'), h')) : ob = ob' ∧ g = g' ∧ v = v' ∧ h = h' := by
  simp only [Option.some.injEq, Prod.mk.injEq] at e
  exact ⟨e.1, e.2.1.1, e.2.1.2, e.2.2⟩

section
variable (C : Cfg) (hI : ∀ w w', I w → Below B0 w w' → I w') (H : Good C.G I B0 E) {F : Fr} {a : Act} (hf : FrsOk E F a) {dr ob g : Bool} {v : AV} {h' : Hp} {d : Option Tmp} {ty : TypeId} {pos : String} {after : Array Edge} {gd : Option (Nat × Bool)}
include hI H hf

theorem evMove_ok {x : Operand} {op : Op} (hop : ∀ ρ, (execOp ρ ⟨d, op, ty, pos, after, gd⟩) = pure (.value (ρ x))) (h : evMove C dr F E.h ty x = some (ob, (g, v), h')) : OpOk C.P C.G I B0 E a ⟨d, op, ty, pos, after, gd⟩ g v h' := by
  unfold evMove at h
  split at h
  · rename_i u
    have hr : (execOp a.eval ⟨d, op, ty, pos, after, gd⟩).run C.P E.w = .ok (.value u) E.w := by rw [hop]; rfl
    split at h
    · rename_i hn
      have := nilSl_eq hn
      subst this
      split at h
      · obtain ⟨_, rfl, rfl, rfl⟩ := some3 h
        exact op_nilslice hI H _ _ hr
      · obtain ⟨_, rfl, rfl, rfl⟩ := some3 h
        exact OpOk.same H _ hr (rel_ofConst E (.slice none 0 0))
    · obtain ⟨_, rfl, rfl, rfl⟩ := some3 h
      exact OpOk.same H _ hr (rel_ofConst E u)
  · simp only [Option.some.injEq, Prod.mk.injEq] at h
    obtain ⟨_, h2, rfl⟩ := h
    have k := ev_ok H hf x
    rw [h2] at k
    exact ⟨a.eval x, E, .inl (by rw [hop]; rfl), Step.refl H, rfl, k.1, k.2⟩

theorem evBuildSlice_ok {t : TypeId} {len : Nat} {parts : Array (Nat × Operand)} (h : evBuildSlice C dr F E.h t len parts = some (ob, (g, v), h')) (hob : ob = true) :
    OpOk C.P C.G I B0 E a ⟨d, .buildSlice t len parts, ty, pos, after, gd⟩ g v h' := by
  unfold evBuildSlice at h
  split at h
  · rename_i e ht
    cases hb : (Nat.beq parts.size len && (parts.toList.zipIdx.all fun p => Nat.beq p.1.1 p.2) && (parts.toList.all fun p => Nat.beq (flat (ev C.G F p.2).2).length (C.P.cellsOf e)) &&
        Nat.ble (len * C.P.cellsOf e) 16777216 && Nat.ble 1 (C.P.cellsOf e) && ((C.P.info? e).bind (·.zero)).isSome) with
    | false => rw [hb] at h; cases h
    | true =>
      rw [hb] at h
      simp only [cond_true] at h
      simp only [Bool.and_eq_true] at hb
      obtain ⟨⟨⟨⟨⟨b1, b2⟩, b3⟩, b4⟩, b5⟩, b6⟩ := hb
      have b1 := Nat.eq_of_beq_eq_true b1
      have b3' := flat_map_len (G := C.G) (F := F) b3
      have b4 := Nat.le_of_ble_eq_true b4
      have b5 := Nat.le_of_ble_eq_true b5
      split at h
      · obtain ⟨rfl, rfl, rfl, rfl⟩ := some3 h
        exact op_buildSlice_dr hI H hf t e len _ parts ht rfl b5 b6 b4 b1 b2 b3' hob
      · obtain ⟨rfl, rfl, rfl, rfl⟩ := some3 h
        exact op_buildSlice hI H hf t e len _ parts ht rfl b5 b6 b4 b1 b2 b3' hob
  · cases h

theorem evAppend_ok {s x : Operand} {t t' : TypeId} (h : evAppend C F E.h s x t t' = some (ob, (g, v), h')) (hob : ob = true) :
    OpOk C.P C.G I B0 E a ⟨d, .call { callee := .builtin .append, args := #[s, x], argTypes := #[t, t'] }, ty, pos, after, gd⟩ g v h' := by
  unfold evAppend at h
  split at h
  · rename_i e g1 sz es id g2 sz' ns own' ht hs hx
    split at h
    · rename_i i hi
      split at h
      · rename_i z hz
        obtain ⟨rfl, rfl, rfl, rfl⟩ := some3 h
        simp only [Bool.and_eq_true, decide_eq_true_eq] at hob
        obtain ⟨⟨⟨⟨⟨⟨⟨⟨⟨b1, b2⟩, b3⟩, b4⟩, b5⟩, b6⟩, b7⟩, b8⟩, b9⟩, b10⟩ := hob
        have b3 := Nat.eq_of_beq_eq_true b3
        subst b3
        exact op_append hI H hf t e s x ht hs hx b1 b2 hi hz (Nat.eq_of_beq_eq_true b10) b4 b5 b6 (Nat.le_of_ble_eq_true b7) b8 (Nat.le_of_ble_eq_true b9)
      · cases h
    · cases h
  · cases h

theorem evAppendS_ok {s x : Operand} {t t' : TypeId} (h : evAppendS C F E.h s x t t' = some (ob, (g, v), h')) (hob : ob = true) :
    OpOk C.P C.G I B0 E a ⟨d, .call { callee := .builtin .append, args := #[s, x], argTypes := #[t, t'] }, ty, pos, after, gd⟩ g v h' := by
  unfold evAppendS at h
  split at h
  · rename_i e g1 sz es id g2 l ht ht' hs hx
    split at h
    · rename_i i hi
      split at h
      · rename_i z hz
        obtain ⟨rfl, rfl, rfl, rfl⟩ := some3 h
        simp only [Bool.and_eq_true, decide_eq_true_eq] at hob
        obtain ⟨⟨⟨⟨⟨⟨⟨b1, b2⟩, b4⟩, b5⟩, b6⟩, b8⟩, b9⟩, b10⟩ := hob
        exact op_append_str hI H hf t t' e s x ht ht' hs hx b1 b2 hi hz (Nat.eq_of_beq_eq_true b10) b4 b5 (Nat.eq_of_beq_eq_true b6) b8 (Nat.le_of_ble_eq_true b9)
      · cases h
    · cases h
  · cases h

theorem evalOp_ok {o : Oper} (h : evalOp C dr F E.h o = some (ob, (g, v), h')) (hob : ob = true) : OpOk C.P C.G I B0 E a o g v h' := by
  obtain ⟨d, op, ty, pos, after, gd⟩ := o
  unfold evalOp at h
  cases op <;> simp only at h
  case move x => exact evMove_ok C hI H hf (fun _ => rfl) h
  case assign x => exact evMove_ok C hI H hf (fun _ => rfl) h
  case pick c x y =>
    unfold evPick at h
    split at h
    · rename_i gc c' hc
      rw [condB_eq] at h
      obtain ⟨rfl, rfl, rfl, rfl⟩ := some3 h
      subst hob
      exact op_pick H hf c x y hc
    · cases h
  case alloc t =>
    unfold evAlloc at h
    split at h
    · rename_i cs more hz
      obtain ⟨rfl, rfl, rfl, rfl⟩ := some3 h
      exact op_alloc hI H t hz
    · cases h
  case range t x =>
    unfold evRange at h
    split at h
    · rename_i g1 s ht hx
      obtain ⟨rfl, rfl, rfl, rfl⟩ := some3 h
      exact op_range hI H hf t x ht hx hob
    · cases h
  case next it isString =>
    unfold evNext at h
    split at h
    · rename_i g1 b hx
      split at h
      · rename_i s p hb
        split at h
        · rename_i hlt
          obtain ⟨rfl, rfl, rfl, rfl⟩ := some3 h
          exact op_next hI H hf it hx hob hb (Nat.le_of_ble_eq_true hlt)
        · rename_i hlt
          obtain ⟨rfl, rfl, rfl, rfl⟩ := some3 h
          exact op_next_stop H hf it hx hob hb (fun hp => by
            have : Nat.blt p s.length = true := Nat.ble_eq_true_of_le hp
            rw [hlt] at this; cases this)
      · cases h
    · cases h
  case makeSlice t l c =>
    unfold evMake at h
    split at h
    · rename_i e ht
      split at h
      · rename_i i g1 k n g2 k2 m hi hl hc
        split at h
        · rename_i z hz
          obtain ⟨rfl, rfl, rfl, rfl⟩ := some3 h
          exact op_make hI H hf t e l c ht hi hl hc hz hob
        · cases h
      · cases h
    · cases h
  case box t x =>
    obtain ⟨rfl, rfl, rfl, rfl⟩ := some3 h
    exact op_box hI H hf t x hob
  case build t parts =>
    unfold evBuild at h
    split at h
    · rename_i fs z more ht hz
      split at h
      · rename_i cs hc
        obtain ⟨rfl, rfl, rfl, rfl⟩ := some3 h
        simp only [Bool.and_eq_true] at hob
        exact op_build hI H hf t parts ht hz hob.1 hob.2 hc
      · cases h
    · rename_i m e z more ht hz
      split at h
      · rename_i cs hc
        obtain ⟨rfl, rfl, rfl, rfl⟩ := some3 h
        simp only [Bool.and_eq_true] at hob
        exact op_build_arr hI H hf t parts ht hz hob.1 hob.2 hc
      · cases h
    · cases h
  case buildSlice t len parts => exact evBuildSlice_ok C hI H hf h hob
  case load t x =>
    unfold evLoad at h
    split at h
    · rename_i g1 cs hx
      split at h
      · rename_i u hr
        obtain ⟨rfl, rfl, rfl, rfl⟩ := some3 h
        exact op_load_ro H hf t x hx hob hr
      · cases h
    · rename_i g1 b o hx
      split at h
      · rename_i cs hb
        split at h
        · rename_i u hr
          obtain ⟨rfl, rfl, rfl, rfl⟩ := some3 h
          exact op_load_ptr H hf t x hx hob hb hr
        · cases h
      · cases h
    · cases h
  case store t x y =>
    unfold evStore at h
    split at h
    · rename_i g1 b o hx
      split at h
      · rename_i cs i hb hi
        obtain ⟨rfl, rfl, rfl, rfl⟩ := some3 h
        simp only [Bool.and_eq_true] at hob
        obtain ⟨⟨⟨⟨h1, h2⟩, h3⟩, h4⟩, h5⟩ := hob
        exact op_store hI H hf t x y hx (g' := (ev C.G F y).1) (v := (ev C.G F y).2) rfl hb hi (by rw [h1, h2, h3]; rfl) (by rw [h4, h5]; rfl)
      · cases h
    · cases h
  case nilCheck x =>
    unfold evNilCheck at h
    split at h
    · rename_i g1 b o hx
      obtain ⟨rfl, rfl, rfl, rfl⟩ := some3 h
      exact op_nilCheck_ptr H hf x hx hob
    · rename_i g1 cs hx
      obtain ⟨rfl, rfl, rfl, rfl⟩ := some3 h
      exact op_nilCheck_ro H hf x hx hob
    · cases h
  case binOp op t x y u =>
    unfold evBin at h
    split at h
    · rename_i r hr
      obtain ⟨rfl, rfl, rfl, rfl⟩ := some3 h
      exact op_bin H hf op t u x y hr hob
    · split at h
      · rename_i bb hc hn
        obtain ⟨rfl, rfl, rfl, rfl⟩ := some3 h
        exact (op_cmp H hf t u x y hc hob).1
      · rename_i bb hc hn
        obtain ⟨rfl, rfl, rfl, rfl⟩ := some3 h
        exact (op_cmp H hf t u x y hc hob).2
      · unfold evEqS at h
        split at h
        · rename_i g1 xs g2 ys hx hy _ _ _
          split at h
          · rename_i b he
            obtain ⟨rfl, rfl, rfl, rfl⟩ := some3 h
            exact (op_eqS H hf t u x y hx hy he hob).1
          · cases h
        · rename_i g1 xs g2 ys hx hy _ _ _
          split at h
          · rename_i b he
            obtain ⟨rfl, rfl, rfl, rfl⟩ := some3 h
            exact (op_eqS H hf t u x y hx hy he hob).2
          · cases h
        · cases h
  case unOp op t x =>
    split at h
    · rename_i r hr
      obtain ⟨rfl, rfl, rfl, rfl⟩ := some3 h
      exact op_un H hf op t x hr hob
    · cases h
  case convert src dst x =>
    unfold evConvert at h
    split at h
    · rename_i t g1 b o hs hd hx
      split at h
      · rename_i t0 cs i hb hi
        obtain ⟨rfl, rfl, rfl, rfl⟩ := some3 h
        exact op_to_unsafe H hf src dst t x hs hd hx hb hi hob
      · cases h
    · rename_i t g1 b o hs hd hx
      split at h
      · rename_i t0 cs i hb hi
        obtain ⟨rfl, rfl, rfl, rfl⟩ := some3 h
        exact op_from_unsafe H hf src dst t x hs hd hx hb hi hob
      · cases h
    · rename_i k0 g1 k n hs hd hx
      obtain ⟨rfl, rfl, rfl, rfl⟩ := some3 h
      exact op_int_str H hf src dst x hs hd hx hob
    · rename_i e g1 sz es own hs hd hx
      split at h
      · rename_i he
        obtain ⟨rfl, rfl, rfl, rfl⟩ := some3 h
        simp only [Bool.and_eq_true] at hob
        exact op_bytes_str H hf src dst e x hs he hd hx hob.1 (rowsB_ok hob.2)
      · cases h
    · rename_i e g1 b off len sz hs hd hx
      split at h
      · rename_i t cs he hb
        obtain ⟨rfl, rfl, rfl, rfl⟩ := some3 h
        simp only [Bool.and_eq_true] at hob
        obtain ⟨⟨h0, h1⟩, h2⟩ := hob
        have h1 := Nat.eq_of_beq_eq_true h1
        subst h1
        exact op_osl_str H hf src dst e x hs he hd hx h0 hb (cellsB_ok h2)
      · cases h
    · rename_i e g1 l hs hd hx
      split at h
      · rename_i he
        obtain ⟨rfl, rfl, rfl, rfl⟩ := some3 h
        exact op_str_bytes hI H hf src dst e x hs hd he hx hob
      · cases h
    · split at h
      · rename_i r hr
        obtain ⟨rfl, rfl, rfl, rfl⟩ := some3 h
        exact op_convert H hf src dst x hr hob
      · cases h
  case makeFunc f first cap =>
    obtain ⟨rfl, rfl, rfl, rfl⟩ := some3 h
    exact op_makeFunc H hf f first cap hob
  case slice t x lo hi mx =>
    split at h
    · rename_i q hq
      rw [← hq] at h
      clear hq
      unfold evSlice at h
      split at h
      · rename_i g1 l g2 r g3 s hl hr ht hx
        obtain ⟨rfl, rfl, rfl, rfl⟩ := some3 h
        exact op_slice_str H hf t x lo hi ht hx hl hr hob
      · rename_i g1 l g2 r e g3 sz es own hl hr ht hx
        obtain ⟨rfl, rfl, rfl, rfl⟩ := some3 h
        simp only [Bool.and_eq_true] at hob
        exact op_slice_sl H hf t e x lo hi ht hx hl hr hob.2 (by simp only [Bool.and_eq_true]; exact hob.1)
      · cases h
    · unfold evSliceP at h
      split at h
      · rename_i g1 l n e g2 b o hl ht hx hnone
        split at h
        · rename_i t0 cs hb
          obtain ⟨rfl, rfl, rfl, rfl⟩ := some3 h
          exact op_slice_arr H hf t e n x lo ht hx hl hb hob
        · cases h
      · cases h
  case fieldAddr s x f =>
    unfold evFieldAddr at h
    split at h
    · rename_i fs hs
      split at h
      · rename_i fd hfd
        cases hc : Nat.beq (C.P.cellsOf fd.type) 0 with
        | true => rw [hc] at h; cases h
        | false =>
          rw [hc] at h
          simp only [cond_false] at h
          split at h
          · rename_i g1 b o hx
            obtain ⟨rfl, rfl, rfl, rfl⟩ := some3 h
            exact op_fieldAddr_ptr H hf s x f hs hfd hc hx hob
          · rename_i g1 cs hx
            obtain ⟨rfl, rfl, rfl, rfl⟩ := some3 h
            exact op_fieldAddr_ro H hf s x f hs hfd hc hx hob
          · cases h
      · cases h
    · cases h
  case field s x f =>
    unfold evField at h
    split at h
    · rename_i fs hs
      split at h
      · rename_i fd g1 cs hfd hx
        split at h
        · rename_i u hr
          obtain ⟨rfl, rfl, rfl, rfl⟩ := some3 h
          exact op_field H hf s x f hs hfd hx hob hr
        · cases h
      · cases h
    · cases h
  case indexAddr t x i =>
    unfold evIndexAddr at h
    split at h
    · rename_i e g1 sz es own g2 k n ht hx hi
      obtain ⟨rfl, rfl, rfl, rfl⟩ := some3 h
      exact op_indexAddr_sl H hf t x i ht hx hi hob
    · rename_i e g1 b off len sz g2 k n ht hx hi
      obtain ⟨rfl, rfl, rfl, rfl⟩ := some3 h
      exact op_indexAddr_osl H hf t x i ht hx hi hob
    · rename_i m e g1 cs g2 k n ht hx hi
      obtain ⟨rfl, rfl, rfl, rfl⟩ := some3 h
      exact op_indexAddr_arr_ro H hf t x i ht hx hi hob
    · rename_i m e g1 b o g2 k n ht hx hi
      obtain ⟨rfl, rfl, rfl, rfl⟩ := some3 h
      exact op_indexAddr_arr_ptr H hf t x i ht hx hi hob
    · cases h
  case index t x i =>
    unfold evIndex at h
    split at h
    · rename_i g1 s g2 k n ht hx hi
      obtain ⟨rfl, rfl, rfl, rfl⟩ := some3 h
      exact op_index_str H hf t x i ht hx hi hob
    · cases h
  case extract t ix =>
    unfold evExtract at h
    split at h
    · rename_i g1 vs hx
      split at h
      · rename_i u hu
        obtain ⟨rfl, rfl, rfl, rfl⟩ := some3 h
        exact op_extract H hf t ix hx hob hu
      · cases h
    · cases h
  case call c =>
    obtain ⟨callee, args, ts⟩ := c
    cases callee <;> simp only at h
    case builtin b =>
      unfold evBuiltin at h
      split at h
      · rename_i x t ha hts
        have ha' : args = #[x] := by rw [← Array.toArray_toList (xs := args), ha]
        have ht' : ts = #[t] := by rw [← Array.toArray_toList (xs := ts), hts]
        subst ha'; subst ht'
        unfold evLen at h
        split at h
        · rename_i g1 s ht hx
          obtain ⟨rfl, rfl, rfl, rfl⟩ := some3 h
          exact op_len_str H hf x t ht hx hob
        · rename_i e g1 sz es own ht hx
          obtain ⟨rfl, rfl, rfl, rfl⟩ := some3 h
          exact op_len_sl H hf x t ht hx hob
        · rename_i e g1 b off len sz ht hx
          obtain ⟨rfl, rfl, rfl, rfl⟩ := some3 h
          exact op_len_osl H hf x t ht hx hob
        · cases h
      · rename_i x y ha
        have ha' : args = #[x, y] := by rw [← Array.toArray_toList (xs := args), ha]
        subst ha'
        unfold evMax at h
        split at h
        · rename_i g1 k m g2 k' n hx hy
          obtain ⟨rfl, rfl, rfl, rfl⟩ := some3 h
          exact op_max H hf x y ts hx hy hob
        · cases h
      · rename_i x y ha
        have ha' : args = #[x, y] := by rw [← Array.toArray_toList (xs := args), ha]
        subst ha'
        unfold evMin at h
        split at h
        · rename_i g1 k m g2 k' n hx hy
          obtain ⟨rfl, rfl, rfl, rfl⟩ := some3 h
          exact op_min H hf x y ts hx hy hob
        · cases h
      · rename_i s x t t' ha hts
        have ha' : args = #[s, x] := by rw [← Array.toArray_toList (xs := args), ha]
        have ht' : ts = #[t, t'] := by rw [← Array.toArray_toList (xs := ts), hts]
        subst ha'; subst ht'
        split at h
        · exact evAppendS_ok C hI H hf h hob
        · exact evAppend_ok C hI H hf h hob
      · cases h
    all_goals cases h
  all_goals cases h
end
end
end Go.Ai
