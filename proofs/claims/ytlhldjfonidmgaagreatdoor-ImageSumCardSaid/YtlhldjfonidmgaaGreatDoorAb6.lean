/- Objects, maps, plain runs. -/
import Derived.Test.YtlhldjfonidmgaaGreatDoorAb5
namespace Go.Ab
set_option linter.unusedSimpArgs false
set_option linter.unusedVariables false
set_option linter.unusedSectionVars false
/-- A run without memory. -/
def prun (P : Program) {α : Type} : Sem α → Option α
  | .pure a => some a
  | .program k => prun P (k P)
  | .mark _ k => prun P k
  | .choose q k => if q.forced then prun P (k 0) else none
  | _ => none
theorem prun_run {P : Program} {α : Type} : ∀ {s : Sem α} {a : α}, prun P s = some a → ∀ w, s.run P w = .ok a w := by
  intro s
  induction s with
  | pure x => intro a h w; cases h; rfl
  | program k ih => intro a h w; exact ih P h w
  | mark m k ih => intro a h w; exact ih h w
  | choose q k ih =>
    intro a h w
    simp only [prun] at h
    split at h
    · rename_i hq
      simp only [Sem.run, hq, if_true]
      exact ih 0 h w
    · cases h
  | _ => intro a h; simp [prun] at h
section
variable {P : Program} {w0 : W0} {α β : Type} {E : Env}
theorem sim_getObj {r r' : Nat} {op : Option Nat} (e : E r = some (r', op)) : Sim P w0 E (fun E' o o' => ObjR P E' op o o' ∧ ∀ c t fr, o ≠ .cells c t fr) (getObj r) (getObj r') := fun h o h' eq w H => by
  simp only [Go.getObj, arun] at eq
  split at eq
  · cases eq
  · rename_i o1 p hn hg
    cases eq
    obtain ⟨b, op1, o', e1, ef, hw, ro⟩ := H.blk r _ _ hg e
    rw [e] at e1
    cases e1
    refine ⟨E, o', w, E.le_refl, ⟨ro, fun c t fr hc => hn c t fr hc⟩, ?_, H⟩
    cases ro with
    | cells a1 a2 a3 => exact (hn _ _ _ rfl).elim
    | _ => simp [Go.getObj, Sem.run, hw]
  · cases eq
theorem sim_setObj {r r' : Nat} {op : Option Nat} (e : E r = some (r', op)) {o o' : Obj} (ro : ObjR P E op o o') : Sim P w0 E (fun _ _ _ => True) (setObj r o) (setObj r' o') := fun h u h' eq w H => by
  simp only [Go.setObj, arun] at eq
  split at eq
  · cases eq
  · cases eq
  · rename_i _ _ _ _ hn hg ho
    split at eq
    · rename_i hb
      cases eq
      obtain ⟨b, op1, o1', e1, ef, hw, r1⟩ := H.blk r _ _ hg e
      rw [e] at e1
      cases e1
      refine ⟨E, (), _, E.le_refl, trivial, ?_, ef ▸ H.put hg (Nat.le_of_ble_eq_true hb) e ro⟩
      cases r1 with
      | cells a1 a2 a3 => exact (hn _ _ _ rfl).elim
      | _ => simp [Go.setObj, Sem.run, hw]
    · cases eq
  · cases eq
end
end Go.Ab
