/- Walk: what the error laws' wakes tries. -/
import Derived.Test.YtaaibekhoondcaaDoorIs
namespace Go.Proofs.YtaaibekhoondcaaDoor
open Go.RowKit
set_option linter.unusedSimpArgs false
set_option linter.unusedVariables false

set_option maxRecDepth 100000 in
set_option maxHeartbeats 2000000 in
theorem small5 (w : World) : Calls Tryd.prog 103 #[.int .i64 5] w fun e w' => e = .returned (.string ⟨#[53]⟩) ∧ Grew w w' := by
  go_enter Tryd.func103, Tryd.ntmps103
  go_wp2_with fail
  go_ret
  exact ⟨rfl, by repeat (first | with_reducible exact HG.out | with_reducible exact Grew.refl _ | with_reducible assumption | with_reducible apply Grew.plus | with_reducible apply Grew.drewN | with_reducible apply Grew.drew | with_reducible apply Grew.alloc | with_reducible refine Grew.setCell ?_ (by simp [go_sem]; try omega) _)⟩
set_option maxRecDepth 100000 in
set_option maxHeartbeats 2000000 in
theorem format5 (w : World) : Calls Tryd.prog 98 #[.int .i64 5, .int .i64 10] w fun e w' => e = .returned (.string ⟨#[53]⟩) ∧ Grew w w' := by
  go_enter Tryd.func98, Tryd.ntmps98
  go_wp2_with (go_at_call 103; refine (small5 _).mono ?_; rintro e w' ⟨rfl, gx, rfl⟩)
  go_ret
  exact ⟨rfl, by repeat (first | with_reducible exact HG.out | with_reducible exact Grew.refl _ | with_reducible assumption | with_reducible apply Grew.plus | with_reducible apply Grew.drewN | with_reducible apply Grew.drew | with_reducible apply Grew.alloc | with_reducible refine Grew.setCell ?_ (by simp [go_sem]; try omega) _)⟩
theorem itoa5' (w : World) : Calls Tryd.prog 81 #[.int .i64 5] w fun e w' => e = .returned (.string ⟨#[53]⟩) ∧ Grew w w' := by
  go_enter Tryd.func81, Tryd.ntmps81
  go_wp2_with (go_at_call 98; refine (format5 _).mono ?_; rintro e w' ⟨rfl, gx, rfl⟩)
  go_ret
  exact ⟨rfl, by repeat (first | with_reducible exact HG.out | with_reducible exact Grew.refl _ | with_reducible assumption | with_reducible apply Grew.plus | with_reducible apply Grew.drewN | with_reducible apply Grew.drew | with_reducible apply Grew.alloc | with_reducible refine Grew.setCell ?_ (by simp [go_sem]; try omega) _)⟩
theorem itoa5 (w : World) : Calls Tryd.prog 60 #[.int .i64 5] w fun e w' => e = .returned (.string ⟨#[53]⟩) ∧ Grew w w' := by
  go_enter Tryd.func60, Tryd.ntmps60
  go_wp2_with (go_at_call 81; refine (itoa5' _).mono ?_; rintro e w' ⟨rfl, gx, rfl⟩)
  go_ret
  exact ⟨rfl, by repeat (first | with_reducible exact HG.out | with_reducible exact Grew.refl _ | with_reducible assumption | with_reducible apply Grew.plus | with_reducible apply Grew.drewN | with_reducible apply Grew.drew | with_reducible apply Grew.alloc | with_reducible refine Grew.setCell ?_ (by simp [go_sem]; try omega) _)⟩

theorem errorOfE (v : Value) (w : World) : (Go.method 310 179 v "Error").run Tryd.prog w = .ok (151, v) w := by kernel_rfl
theorem errorOfF (v : Value) (w : World) : (Go.method 310 104 v "Error").run Tryd.prog w = .ok (133, v) w := by kernel_rfl
theorem text7 {S : Nat → Addr} {w : World} (hS : Sents S w) : w.cell? (S 7) = some (.string ⟨#[99, 117, 116, 32, 115, 104, 111, 114, 116]⟩) := by
  obtain ⟨s, h1, h2, _⟩ := hS.txt 7 (by omega) (by omega)
  have : s = ⟨#[99, 117, 116, 32, 115, 104, 111, 114, 116]⟩ := ByteArray.ext (Array.toList_inj.1 h2)
  rw [h1, this]
set_option maxRecDepth 100000 in
set_option maxHeartbeats 2000000 in
theorem error7 {S : Nat → Addr} {w : World} (hS : Sents S w) : Calls Tryd.prog 151 #[.pointer (some (S 7))] w fun e w' => e = .returned (.string ⟨#[99, 117, 116, 32, 115, 104, 111, 114, 116]⟩) ∧ Grew w w' := by
  have h := text7 hS
  have hsp := World.cell?_spot h
  clear hS
  generalize S 7 = a at *
  obtain ⟨b, o, sp⟩ := a
  simp only at hsp
  subst hsp
  go_enter Tryd.func151, Tryd.ntmps151
  go_wp2_with fail
  go_ret
  exact ⟨rfl, by repeat (first | with_reducible exact HG.out | with_reducible exact Grew.refl _ | with_reducible assumption | with_reducible apply Grew.plus | with_reducible apply Grew.drewN | with_reducible apply Grew.drew | with_reducible apply Grew.alloc | with_reducible refine Grew.setCell ?_ (by simp [go_sem]; try omega) _)⟩
set_option maxRecDepth 100000 in
set_option maxHeartbeats 2000000 in
theorem said7 {S : Nat → Addr} {w : World} (hS : Sents S w) : Calls Tryd.prog 134 #[errV (S 7)] w fun e w' => e = .returned (.string ⟨#[99, 117, 116, 32, 115, 104, 111, 114, 116]⟩) ∧ Grew w w' := by
  have EC := Lib.hid (error7 hS)
  have mE := errorOfE
  clear hS
  go_enter Tryd.func134, Tryd.ntmps134
  go_wp2_with (go_at_call 151; refine (EC.out).mono ?_; rintro e w' ⟨rfl, gx, rfl⟩)
  go_ret
  exact ⟨rfl, by repeat (first | with_reducible exact HG.out | with_reducible exact Grew.refl _ | with_reducible assumption | with_reducible apply Grew.plus | with_reducible apply Grew.drewN | with_reducible apply Grew.drew | with_reducible apply Grew.alloc | with_reducible refine Grew.setCell ?_ (by simp [go_sem]; try omega) _)⟩
set_option maxRecDepth 100000 in
set_option maxHeartbeats 2000000 in
theorem ferror7 {S : Nat → Addr} {w : World} (hS : Sents S w) {b : Nat} (hb : w.heap[b]? = some (.cells #[.string ⟨#[119, 105, 114, 101]⟩, .string ⟨#[78, 117, 109, 98, 101, 114]⟩, .int .i64 5, errV (S 7)] 106 (0, 0))) :
    Calls Tryd.prog 133 #[.pointer (some ⟨b, 0, none⟩)] w fun e w' => e = .returned (.string ⟨#[119, 105, 114, 101, 46, 78, 117, 109, 98, 101, 114, 32, 97, 116, 32, 53, 58, 32, 99, 117, 116, 32, 115, 104, 111, 114, 116]⟩) ∧ Grew w w' := by
  have SC := Lib.hid (fun W (hW : Grew w W) => said7 (hS.grew hW))
  obtain ⟨c0, f0⟩ := World.own_cell hb 0 _ rfl
  obtain ⟨c1, f1⟩ := World.own_cell hb 1 _ rfl
  obtain ⟨c2, f2⟩ := World.own_cell hb 2 _ rfl
  obtain ⟨c3, f3⟩ := World.own_cell hb 3 _ rfl
  have e1 : (⟨#[119, 105, 114, 101]⟩ ++ ⟨#[46]⟩ : ByteArray) = ⟨#[119, 105, 114, 101, 46]⟩ := rfl
  have e2 : (⟨#[119, 105, 114, 101, 46]⟩ ++ ⟨#[78, 117, 109, 98, 101, 114]⟩ : ByteArray) = ⟨#[119, 105, 114, 101, 46, 78, 117, 109, 98, 101, 114]⟩ := rfl
  have e3 : (⟨#[32, 97, 116, 32]⟩ ++ ⟨#[53]⟩ : ByteArray) = ⟨#[32, 97, 116, 32, 53]⟩ := rfl
  have e4 : (⟨#[119, 105, 114, 101, 46, 78, 117, 109, 98, 101, 114]⟩ ++ ⟨#[32, 97, 116, 32, 53]⟩ : ByteArray) = ⟨#[119, 105, 114, 101, 46, 78, 117, 109, 98, 101, 114, 32, 97, 116, 32, 53]⟩ := rfl
  have e5 : (⟨#[119, 105, 114, 101, 46, 78, 117, 109, 98, 101, 114, 32, 97, 116, 32, 53]⟩ ++ ⟨#[58, 32]⟩ : ByteArray) = ⟨#[119, 105, 114, 101, 46, 78, 117, 109, 98, 101, 114, 32, 97, 116, 32, 53, 58, 32]⟩ := rfl
  have e6 : (⟨#[119, 105, 114, 101, 46, 78, 117, 109, 98, 101, 114, 32, 97, 116, 32, 53, 58, 32]⟩ ++ ⟨#[99, 117, 116, 32, 115, 104, 111, 114, 116]⟩ : ByteArray) = ⟨#[119, 105, 114, 101, 46, 78, 117, 109, 98, 101, 114, 32, 97, 116, 32, 53, 58, 32, 99, 117, 116, 32, 115, 104, 111, 114, 116]⟩ := rfl
  clear hS hb
  go_enter Tryd.func133, Tryd.ntmps133
  go_wp2_with fail
  refine wp_region_plus (by kernel_rfl) (by kernel_rfl) ?_
  repeat (go_big_quiet_step ((first | fail)))
  refine wpQuiet_nil ?_
  intro _ hw'
  obtain ⟨nx, rfl⟩ := hw'
  go_wp2_with (first | (go_at_call 60; refine (itoa5 _).mono ?_; rintro e w' ⟨rfl, gx, rfl⟩) | (go_at_call 134; refine (SC.out _ (by repeat (first | with_reducible exact HG.out | with_reducible exact Grew.refl _ | with_reducible assumption | with_reducible apply Grew.plus | with_reducible apply Grew.drewN | with_reducible apply Grew.drew | with_reducible apply Grew.alloc | with_reducible refine Grew.setCell ?_ (by simp [go_sem]; try omega) _))).mono ?_; rintro e w' ⟨rfl, gx, rfl⟩))
  go_ret
  exact ⟨rfl, by repeat (first | with_reducible exact HG.out | with_reducible exact Grew.refl _ | with_reducible assumption | with_reducible apply Grew.plus | with_reducible apply Grew.drewN | with_reducible apply Grew.drew | with_reducible apply Grew.alloc | with_reducible refine Grew.setCell ?_ (by simp [go_sem]; try omega) _)⟩
set_option maxRecDepth 100000 in
set_option maxHeartbeats 2000000 in
theorem etext7 {S : Nat → Addr} {w : World} (hS : Sents S w) {b : Nat} (hb : w.heap[b]? = some (.cells #[.string ⟨#[119, 105, 114, 101]⟩, .string ⟨#[78, 117, 109, 98, 101, 114]⟩, .int .i64 5, errV (S 7)] 106 (0, 0))) :
    Calls Tryd.prog 67 #[faultV ⟨b, 0, none⟩] w fun e w' => e = .returned (.string ⟨#[119, 105, 114, 101, 46, 78, 117, 109, 98, 101, 114, 32, 97, 116, 32, 53, 58, 32, 99, 117, 116, 32, 115, 104, 111, 114, 116]⟩) ∧ Grew w w' := by
  have EC := Lib.hid (ferror7 hS hb)
  have mE := errorOfF
  clear hS hb
  go_enter Tryd.func67, Tryd.ntmps67
  go_wp2_with (go_at_call 133; refine (EC.out).mono ?_; rintro e w' ⟨rfl, gx, rfl⟩)
  go_ret
  exact ⟨rfl, by repeat (first | with_reducible exact HG.out | with_reducible exact Grew.refl _ | with_reducible assumption | with_reducible apply Grew.plus | with_reducible apply Grew.drewN | with_reducible apply Grew.drew | with_reducible apply Grew.alloc | with_reducible refine Grew.setCell ?_ (by simp [go_sem]; try omega) _)⟩
theorem code7 (l c : ByteArray) (i : Int) : (Err.fault l c i (.reason 7)).code = 7 := by
  have hn : numOf 7 = 7 := by decide
  show ((Err.fault l c i (.reason 7)).walk codeF 99).1 = 7
  rw [Err.walk, Err.walk, hn]
  simp [codeF]
set_option maxRecDepth 100000 in
set_option maxHeartbeats 2000000 in
/-- What the error laws' wakes tries. -/
theorem wakes1 {S : Nat → Addr} (w : World) (hS : Sents S w) : Calls Tryd.prog 46 #[] w fun e w' => e = .returned (.bool true) ∧ Grew w w' := by
  have hs7 := hS.s7
  have HS := Lib.hid hS
  have HF : Hid (∀ W, Grew (w.alloc (.cells #[.string ⟨#[119, 105, 114, 101]⟩, .string ⟨#[78, 117, 109, 98, 101, 114]⟩, .int .i64 5, errV (S 7)] 106)) W → W.heap[w.heap.size]? = some (.cells #[.string ⟨#[119, 105, 114, 101]⟩, .string ⟨#[78, 117, 109, 98, 101, 114]⟩, .int .i64 5, errV (S 7)] 106 (0, 0)) ∧ Grew w W) := fun W hW => ⟨Grew.heap hW (heap_alloc_at _ _ _ rfl), ((Grew.refl w).alloc _).trans hW⟩
  have CC : Hid (∀ W, Grew (w.alloc (.cells #[.string ⟨#[119, 105, 114, 101]⟩, .string ⟨#[78, 117, 109, 98, 101, 114]⟩, .int .i64 5, errV (S 7)] 106)) W → Calls Tryd.prog 51 #[faultV ⟨w.heap.size, 0, none⟩] W fun e w' => e = .returned (.int .i64 7) ∧ Grew W w') := fun W hW => by
    have h := code_any (hS.grew (HF.out W hW).2) (ErrAt.fault (HF.out W hW).1 (.reason 7 (by omega) (by omega))) (by rw [Err.size, Err.size]; omega)
    rw [code7] at h
    exact h
  have TC := Lib.hid (fun W hW => etext7 (hS.grew (HF.out W hW).2) (HF.out W hW).1)
  clear hS
  go_enter Tryd.func46, Tryd.ntmps46
  go_wp2_with (first | (go_at_call 48; refine (new_any _ _ _ _ _ _).mono ?_; rintro e w' ⟨rfl, rfl⟩) | (go_at_call 51; refine (CC.out _ (by repeat (first | with_reducible exact Grew.refl _ | with_reducible apply Grew.plus | with_reducible apply Grew.drewN | with_reducible apply Grew.drew | exact Grew.refl _))).mono ?_; rintro e w' ⟨rfl, gx, rfl⟩) | (go_at_call 67; refine (TC.out _ (by repeat (first | with_reducible exact Grew.refl _ | with_reducible apply Grew.plus | with_reducible apply Grew.drewN | with_reducible apply Grew.drew | exact Grew.refl _))).mono ?_; rintro e w' ⟨rfl, gx, rfl⟩))
  go_ret
  exact ⟨rfl, by repeat (first | with_reducible exact HG.out | with_reducible exact Grew.refl _ | with_reducible assumption | with_reducible apply Grew.plus | with_reducible apply Grew.drewN | with_reducible apply Grew.drew | with_reducible apply Grew.alloc | with_reducible refine Grew.setCell ?_ (by simp [go_sem]; try omega) _)⟩
end Go.Proofs.YtaaibekhoondcaaDoor
