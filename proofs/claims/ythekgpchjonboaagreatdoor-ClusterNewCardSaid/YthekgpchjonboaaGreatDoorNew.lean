/- Walks: a tree, a model, a log without elements: how they are made, what they tell. -/
import Derived.Test.YthekgpchjonboaaGreatDoorProg
import Derived.Test.YthekgpchjonboaaGreatDoorRf
import Derived.Carry
import Derived.Test.YthekgpchjonboaaGreatDoorErrS
namespace Go.Proofs.YthekgpchjonboaaGreatDoor
open Go.RowKit
set_option linter.unusedSimpArgs false
set_option linter.unusedVariables false

abbrev ptr (b : Nat) : Value := .pointer (some ⟨b, 0, none⟩)
abbrev nilS : Value := .slice none 0 0
abbrev tTree : TypeId := 225
abbrev tModel : TypeId := 186
abbrev tLog : TypeId := 193

/-- An empty tree. -/
def ETree (w : World) (T : Nat) : Prop := w.heap[T]? = some (.cells #[.int .i64 64, .pointer none] tTree (0, 0))
/-- An empty model. -/
structure EModel (w : World) (M T Bi : Nat) : Prop where
  m : w.heap[M]? = some (.cells #[ptr T, .map (some Bi)] tModel (0, 0))
  i : w.heap[Bi]? = some (.map #[] 0)
  t : ETree w T
theorem ETree.grew {w w' : World} {T : Nat} (h : ETree w T) (hg : Grew w w') : ETree w' T := Grew.heap hg h
theorem EModel.grew {w w' : World} {M T Bi : Nat} (h : EModel w M T Bi) (hg : Grew w w') : EModel w' M T Bi := ⟨Grew.heap hg h.m, Grew.heap hg h.i, h.t.grew hg⟩

theorem tree_new (w : World) : Calls Tryz.prog 172 #[.int .i64 64] w fun e w' => e = .returned (.tuple #[ptr w.heap.size, .nilIface]) ∧ w' = w.alloc (.cells #[.int .i64 64, .pointer none] tTree) := by
  go_enter Tryz.func172, Tryz.ntmps172
  go_wp2
  go_ret2
  exact ⟨rfl, rfl⟩
theorem model_new (w : World) : Calls Tryz.prog 134 #[] w fun e w' => ∃ M T Bi, e = .returned (ptr M) ∧ Grew w w' ∧ EModel w' M T Bi ∧ w.heap.size ≤ M := by
  have hmm := @run_makeMap Tryz.prog
  go_enter Tryz.func134, Tryz.ntmps134
  go_wp2_with (go_at_call 172; refine (tree_new _).mono ?_; rintro e w' ⟨rfl, rfl⟩)
  go_ret
  have h1 : ∀ (W : World) (o : Obj), (W.alloc o).heap.size = W.heap.size + 1 := fun W o => by simp [go_sem]
  refine ⟨_, w.heap.size, w.heap.size + 1, rfl, ((((Grew.refl w).alloc _).alloc _).alloc _), ⟨?_, ?_, ?_⟩, by omega⟩
  · exact heap_alloc_at _ _ _ (by simp [h1])
  · rw [heap_alloc_past _ _ _ (by simp [h1])]; exact heap_alloc_at _ _ _ (by simp [h1])
  · unfold ETree
    rw [heap_alloc_past _ _ _ (by simp [h1]; omega), heap_alloc_past _ _ _ (by simp [h1])]; exact heap_alloc_at _ _ _ rfl

section
variable {w : World} {T M Bi : Nat}
theorem ETree.cells (h : ETree w T) : T < w.heap.size ∧ w.cell? ⟨T, 0, none⟩ = some (.int .i64 64) ∧ w.cell? ⟨T, 1, none⟩ = some (.pointer none) :=
  ⟨(Array.getElem?_eq_some_iff.1 h).1, (World.own_cell h 0 _ rfl).1, (World.own_cell h 1 _ rfl).1⟩
theorem EModel.cells (h : EModel w M T Bi) : M < w.heap.size ∧ w.cell? ⟨M, 0, none⟩ = some (ptr T) ∧ w.cell? ⟨M, 1, none⟩ = some (.map (some Bi)) :=
  ⟨(Array.getElem?_eq_some_iff.1 h.m).1, (World.own_cell h.m 0 _ rfl).1, (World.own_cell h.m 1 _ rfl).1⟩

theorem size_nil (w : World) : Calls Tryz.prog 237 #[.pointer none] w fun e w' => e = .returned (.int .i64 0) ∧ w = w' := by
  go_enter Tryz.func237, Tryz.ntmps237
  go_wp2
  go_ret
  exact ⟨rfl, rfl⟩
theorem weighs_nil (w : World) : Calls Tryz.prog 249 #[.pointer none] w fun e w' => e = .returned (.agg #[.int .i64 0, .int .i64 0]) ∧ Grew w w' := by
  go_enter Tryz.func249, Tryz.ntmps249
  go_wp2
  exact bodyPost_ret (v := .agg #[.int .i64 0, .int .i64 0]) (by simp [results, Tryz.results249, go_sem]) rfl ⟨rfl, by repeat (first | with_reducible exact HG.out | with_reducible exact Grew.refl _ | with_reducible assumption | with_reducible apply Grew.plus | with_reducible apply Grew.drewN | with_reducible apply Grew.drew | with_reducible apply Grew.alloc | with_reducible refine Grew.setCell ?_ (by simp [go_sem]; try omega) _)⟩
theorem tree_len (h : ETree w T) : Calls Tryz.prog 175 #[ptr T] w fun e w' => e = .returned (.int .i64 0) ∧ w = w' := by
  obtain ⟨hT, c0, c1⟩ := h.cells
  go_enter Tryz.func175, Tryz.ntmps175
  go_wp2_with (go_at_call 237; refine (size_nil _).mono ?_; rintro e w' ⟨rfl, rfl⟩)
  go_ret
  exact ⟨rfl, rfl⟩
theorem tree_weight (h : ETree w T) : Calls Tryz.prog 187 #[ptr T] w fun e w' => e = .returned (.agg #[.int .i64 0, .int .i64 0]) ∧ Grew w w' := by
  obtain ⟨hT, c0, c1⟩ := h.cells
  go_enter Tryz.func187, Tryz.ntmps187
  go_wp2_with (go_at_call 249; refine (weighs_nil _).mono ?_; rintro e w' ⟨rfl, gx, rfl⟩)
  exact bodyPost_ret (v := .agg #[.int .i64 0, .int .i64 0]) (by simp [results, Tryz.results187, go_sem]) rfl ⟨rfl, by repeat (first | with_reducible exact HG.out | with_reducible exact Grew.refl _ | with_reducible assumption | with_reducible apply Grew.plus | with_reducible apply Grew.drewN | with_reducible apply Grew.drew | with_reducible apply Grew.alloc | with_reducible refine Grew.setCell ?_ (by simp [go_sem]; try omega) _)⟩
theorem tree_insert0 (h : ETree w T) : Calls Tryz.prog 136 #[ptr T, .int .i64 0, nilS] w fun e w' => e = .returned .nilIface ∧ w = w' := by
  go_enter Tryz.func136, Tryz.ntmps136
  go_wp2_with (go_at_call 175; refine (tree_len h).mono ?_; rintro e w' ⟨rfl, rfl⟩)
  go_ret
  exact ⟨rfl, rfl⟩
theorem leaves_nil (f : Value) (w : World) : Calls Tryz.prog 130 #[.pointer none, f] w fun e w' => e = .returned (.bool true) ∧ w = w' := by
  go_enter Tryz.func130, Tryz.ntmps130
  go_wp2
  go_ret
  exact ⟨rfl, rfl⟩
theorem tree_all (p : Value) (w : World) : Calls Tryz.prog 93 #[ptr T] w fun e w' => e = .returned (.func (.func 129) #[] #[ptr w.heap.size]) ∧ w' = w.alloc (.cells #[ptr T] 181) := by
  go_enter Tryz.func93, Tryz.ntmps93
  go_wp2
  go_ret
  exact ⟨rfl, rfl⟩
theorem tree_all1 (y : Nat) (b : Nat) (h : ETree w T) (hb : w.cell? ⟨b, 0, none⟩ = some (ptr T)) : Calls Tryz.prog 129 #[.func (.yield y) #[] #[], ptr b] w fun e w' => e = .returned (.tuple #[]) ∧ Grew w w' := by
  obtain ⟨hT, c0, c1⟩ := h.cells
  have hbl := World.block_lt_of_cell? w _ hb
  simp only at hbl
  go_enter Tryz.func129, Tryz.ntmps129
  go_wp2_with (go_at_call 130; refine (leaves_nil _ _).mono ?_; rintro e w' ⟨rfl, rfl⟩)
  go_end0
  exact ⟨rfl, by repeat (first | with_reducible exact HG.out | with_reducible exact Grew.refl _ | with_reducible assumption | with_reducible apply Grew.plus | with_reducible apply Grew.drewN | with_reducible apply Grew.drew | with_reducible apply Grew.alloc | with_reducible refine Grew.setCell ?_ (by simp [go_sem]; try omega) _)⟩
theorem model_all (p : Value) (w : World) : Calls Tryz.prog 137 #[ptr M] w fun e w' => e = .returned (.func (.func 177) #[] #[ptr w.heap.size]) ∧ w' = w.alloc (.cells #[ptr M] 141) := by
  go_enter Tryz.func137, Tryz.ntmps137
  go_wp2
  go_ret
  exact ⟨rfl, rfl⟩
theorem model_len (h : EModel w M T Bi) : Calls Tryz.prog 321 #[ptr M] w fun e w' => e = .returned (.int .i64 0) ∧ w = w' := by
  obtain ⟨hM, c0, c1⟩ := h.cells
  have ht := Lib.hid h.t
  go_enter Tryz.func321, Tryz.ntmps321
  go_wp2_with (go_at_call 175; refine (tree_len ht.out).mono ?_; rintro e w' ⟨rfl, rfl⟩)
  go_ret
  exact ⟨rfl, rfl⟩
set_option maxRecDepth 100000 in
theorem model_live (h : EModel w M T Bi) : Calls Tryz.prog 148 #[ptr M] w fun e w' => e = .returned (.int .i64 0) ∧ Grew w w' := by
  obtain ⟨hM, c0, c1⟩ := h.cells
  have ht := Lib.hid h.t
  go_enter Tryz.func148, Tryz.ntmps148
  go_wp2_with (go_at_call 187; refine (tree_weight ht.out).mono ?_; rintro e w' ⟨rfl, gx, rfl⟩)
  go_ret
  exact ⟨rfl, by repeat (first | with_reducible exact HG.out | with_reducible exact Grew.refl _ | with_reducible assumption | with_reducible apply Grew.plus | with_reducible apply Grew.drewN | with_reducible apply Grew.drew | with_reducible apply Grew.alloc | with_reducible refine Grew.setCell ?_ (by simp [go_sem]; try omega) _)⟩
set_option maxRecDepth 100000 in
theorem model_of (w : World) : Calls Tryz.prog 98 #[nilS] w fun e w' => ∃ M T Bi, e = .returned (.tuple #[ptr M, .nilIface]) ∧ Grew w w' ∧ EModel w' M T Bi ∧ w.heap.size ≤ M := by
  go_enter Tryz.func98, Tryz.ntmps98
  go_wp2_with (go_at_call 134; refine (model_new _).mono ?_; rintro e w1 ⟨M, T, Bi, rfl, hg, hm, hM⟩; have HG := Lib.hid hg; have HM := Lib.hid hm; obtain ⟨hM1, c0, c1⟩ := hm.cells; clear hg hm)
  refine wp_loop_rounds 1 ?_
  rw [rounds_succ]
  go_wp2_with (go_at_call 136; refine (tree_insert0 HM.out.t).mono ?_; rintro e w' ⟨rfl, rfl⟩)
  go_ret2
  exact ⟨M, T, Bi, rfl, HG.out, HM.out, hM⟩
end
end Go.Proofs.YthekgpchjonboaaGreatDoor
