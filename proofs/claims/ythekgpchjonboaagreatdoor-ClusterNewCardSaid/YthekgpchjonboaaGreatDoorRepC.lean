/- Walks: what more a new replica tells; the document's replica, new. -/
import Derived.Test.YthekgpchjonboaaGreatDoorAudS
import Derived.Test.YthekgpchjonboaaGreatDoorAb39
import Derived.Deep.MidRow
namespace Go.Proofs.YthekgpchjonboaaGreatDoor
open Go.RowKit
set_option linter.unusedSimpArgs false
set_option linter.unusedVariables false
section
variable {w : World} {R L M T Bi Bb I D S Bh : Nat} {c0 c1 c2 c3 s : Int}
theorem rep_self (h : ERep w R L M T Bi Bb I D S Bh c0 c1 c2 c3 s) : Calls Tryz.prog 115 #[ptr R] w fun e w' => e = .returned (.int .i64 s) ∧ w = w' := by
  have r4 : w.cell? ⟨R, 4, none⟩ = some (.int .i64 s) := h.c 4 _ rfl
  go_enter Tryz.func115, Tryz.ntmps115
  go_wp2
  go_ret
  exact ⟨rfl, rfl⟩
/- The desk: no more than 36 of them. -/
def deskRow (n s : Int) : Array Value := #[.int .i64 n, .int .i64 s] ++ noRounds
def rounds0 : Value := .agg noRounds
theorem zeros_okC : Ab.zerosOk Tryz.prog = true := by kernel_rfl
theorem mixed_okC : Tryz.prog.follows .mixedOrders = true := by kernel_rfl
noncomputable def allDesks (f : FuncId) (v : Value) : Bool := (List.range 8).all fun i => (List.range (i + 1)).all fun j => Ab.kruns1 Tryz.prog f 400 (deskRow (.ofNat (i + 1)) (.ofNat j)) tDesk v
theorem frozen_all : allDesks 60 (.bool false) = true := by kernel_rfl
theorem rounds_all : allDesks 62 rounds0 = true := by kernel_rfl
theorem desk_any {f : FuncId} {v : Value} (ha : allDesks f v = true) {n s : Int} (h1 : 1 ≤ n) (h2 : n ≤ 8) (h3 : 0 ≤ s) (h4 : s < n) {w : World} {D : Nat} (hw : w.heap[D]? = some (.cells (#[.int .i64 n, .int .i64 s] ++ noRounds) tDesk (0, 0))) :
    Calls Tryz.prog f #[ptr D] w fun e w' => e = .returned v ∧ Grew w w' := by
  have h := List.all_eq_true.1 ha (n - 1).toNat (by simp; omega)
  have h := List.all_eq_true.1 h s.toNat (by simp; omega)
  refine Ab.kruns1_calls zeros_okC mixed_okC h (w := w) (D := D) ?_
  rw [hw]
  have e1 : Int.ofNat ((n - 1).toNat + 1) = n := by show (((n - 1).toNat + 1 : Nat) : Int) = n; omega
  have e2 : Int.ofNat s.toNat = s := by show ((s.toNat : Nat) : Int) = s; omega
  rw [e1, e2]
  rfl
theorem rep_frozen (h : ERep w R L M T Bi Bb I D S Bh c0 c1 c2 c3 s) (h1 : 1 ≤ c0) (h2 : c0 ≤ 8) (h3 : 0 ≤ s) (h4 : s < c0) : Calls Tryz.prog 33 #[ptr R] w fun e w' => e = .returned (.bool false) ∧ Grew w w' := by
  have r8 : w.cell? ⟨R, 8, none⟩ = some (ptr D) := h.c 8 _ rfl
  have HD := Lib.hid (desk_any frozen_all h1 h2 h3 h4 h.d)
  clear h
  go_enter Tryz.func33, Tryz.ntmps33
  go_wp2_with (go_at_call 60; refine HD.out.mono ?_; rintro e w' ⟨rfl, gx, rfl⟩)
  go_ret
  exact ⟨rfl, by repeat (first | with_reducible exact HG.out | with_reducible exact Grew.refl _ | with_reducible assumption | with_reducible apply Grew.plus | with_reducible apply Grew.drewN | with_reducible apply Grew.drew | with_reducible apply Grew.alloc | with_reducible refine Grew.setCell ?_ (by simp [go_sem]; try omega) _)⟩
end
end Go.Proofs.YthekgpchjonboaaGreatDoor
