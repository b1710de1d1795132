/- A region whose order is drawn: the lexical run's record, and what it must bear. -/
import Derived.Test.YtlhldjfonidmgaaGreatDoorAb15
namespace Go.Ab
set_option linter.unusedSimpArgs false
set_option linter.unusedVariables false
set_option linter.unusedSectionVars false
def evalT (ts : Array Value) : Operand → Value
  | .tmp t => ts.getD t undef
  | .const v => v
  | .global g => .pointer (some ⟨g, 0, none⟩)
  | .func f => .func (.func f) #[] #[]
def putT (ts : Array Value) (dst : Option Tmp) (v : Value) : Array Value :=
  match dst with
  | some d => ts.setIfInBounds d v
  | none => ts
/-- Operations that only read, or look at nothing. -/
def rrun (P : Program) {α : Type} : Sem α → AH → Option α
  | .pure a, _ => some a
  | .load _ a k, h => match h.cell? a with
    | some v => rrun P (k v) h
    | none => none
  | .getObj r k, h => match h.get r with
    | some (.cells .., _) => none
    | some (o, _) => rrun P (k o) h
    | none => none
  | .program k, h => rrun P (k P) h
  | .mark _ k, h => rrun P k h
  | _, _ => none
theorem rrun_arun {P : Program} {α : Type} : ∀ {s : Sem α} {h : AH} {a : α}, rrun P s h = some a → arun P s h = some (a, h) := by
  intro s
  induction s with
  | pure x => intro h a e; simp only [rrun, Option.some.injEq] at e; subst e; rfl
  | load m x k ih =>
    intro h a e
    simp only [rrun] at e
    simp only [arun]
    split at e
    · rename_i v hv
      rw [hv]
      exact ih v e
    · cases e
  | getObj r k ih =>
    intro h a e
    simp only [rrun] at e
    simp only [arun]
    split at e
    · cases e
    · rename_i o p hn hg
      rw [hg]
      cases o <;> first | exact (hn _ _ _ rfl).elim | exact ih _ e
    · cases e
  | program k ih => intro h a e; exact ih P e
  | mark m k ih => intro h a e; exact ih e
  | _ => intro h a e; simp [rrun] at e
def valOf : Option Next → Option Value
  | some (.value v) => some v
  | _ => none
def readKind : Op → Bool
  | .load _ _ | .fieldAddr _ _ _ | .field _ _ _ | .indexAddr _ _ _ | .index _ _ _ | .extract _ _ | .makeInterface _ _ | .slice _ _ _ _ none => true
  | .call c => match c.callee with
    | .builtin .len => true
    | _ => false
  | _ => false
/-- Kinds that leave the memory as it is, by their abstract form. -/
def plainKind : Op → Bool
  | .move _ | .assign _ | .pick _ _ _ | .build _ _ | .nilCheck _ | .binOp _ _ _ _ _ | .unOp _ _ _ | .makeFunc _ _ _ | .lookup _ _ _ _ => true
  | .convert _ _ _ => true
  | .call c => match c.callee with
    | .builtin .len | .builtin .copy | .builtin .append | .builtin .recover | .builtin .unsafeSliceData | .builtin .unsafeString => false
    | .builtin _ => true
    | _ => false
  | _ => false
/-- A conversion that reads or reckons. -/
def aread (P : Program) (o : Oper) (ρ : Operand → Value) (h : AH) : Option Value :=
  if readKind o.op then valOf (rrun P (execOp ρ o) h)
  else if plainKind o.op then
    match o.op with
    | .convert src dst x => match P.underlying src, P.underlying dst with
      | some .string, some (.slice _) => none
      | _, _ => match aop P o ρ h with
        | some (.value v, _) => some v
        | _ => none
    | _ => match aop P o ρ h with
      | some (.value v, _) => some v
      | _ => none
  else none
theorem aFlat_same {P : Program} {o : Oper} {ρ : Operand → Value} {h h' : AH} {n : Next} (e : aFlat P o ρ h = some (n, h')) : h' = h := by
  unfold aFlat at e
  split at e
  · split at e
    · split at e
      · cases e; rfl
      · cases e
    · cases e
  · cases e
theorem plain_same {P : Program} {o : Oper} {ρ : Operand → Value} {h h' : AH} {n : Next} (hk : plainKind o.op = true) (hc : ∀ src dst x, o.op = .convert src dst x → ¬ ∃ e, P.underlying src = some .string ∧ P.underlying dst = some (.slice e)) (e : aop P o ρ h = some (n, h')) : h' = h := by
  cases hop : o.op with
  | move x => simp only [aop, hop] at e; cases e; rfl
  | assign x => simp only [aop, hop] at e; cases e; rfl
  | pick c a b => simp only [aop, hop] at e; split at e <;> cases e; rfl
  | build t parts => simp only [aop, hop, Option.map_eq_some_iff] at e; obtain ⟨c, _, he⟩ := e; cases he; rfl
  | nilCheck x => simp only [aop, hop] at e; split at e <;> cases e <;> rfl
  | binOp op t x y ty =>
    simp only [aop, hop] at e
    split at e
    · cases e; rfl
    · cases e; rfl
    · exact aFlat_same e
  | unOp op t x => simp only [aop, hop] at e; exact aFlat_same e
  | makeFunc f a b => simp only [aop, hop] at e; split at e <;> cases e; rfl
  | lookup t x i ok => simp only [aop, hop, Option.map_eq_some_iff] at e; obtain ⟨c, _, he⟩ := e; cases he; rfl
  | convert src dst x =>
    simp only [aop, hop] at e
    split at e
    · rename_i y hy
      cases e
      obtain ⟨v, h1⟩ := y
      unfold aConvert at hy
      split at hy
      · split at hy
        · split at hy
          · cases hy; rfl
          · cases hy
        · cases hy
      · rename_i hs0 hs hd
        exact absurd ⟨_, hs0, hs⟩ (hc src dst x hop)
      · cases hy
    · split at e
      · cases e; rfl
      · exact aFlat_same e
  | call c =>
    rw [hop] at hk
    simp only [aop, hop] at e
    unfold aCall at e
    simp only [plainKind] at hk
    split at hk <;> first | cases hk | skip
    rename_i b hb1 hb2 hb3 hb4 hb5 hb6 hb
    rw [hb] at e
    cases b <;> first | exact aFlat_same e | (exfalso; simp_all; done)
  | _ => rw [hop] at hk; cases hk
theorem aread_aop {P : Program} {o : Oper} {ρ : Operand → Value} {h : AH} {v : Value} (e : aread P o ρ h = some v) : aop P o ρ h = some (.value v, h) := by
  unfold aread at e
  split at e
  · rename_i hk
    have hr : rrun P (execOp ρ o) h = some (.value v) := by
      unfold valOf at e
      split at e
      · rename_i x hx; cases e; exact hx
      · cases e
    have ha := rrun_arun hr
    cases hop : o.op with
    | load t x => simp only [aop, hop]; exact ha
    | fieldAddr t x f => simp only [aop, hop]; exact ha
    | field t x f => simp only [aop, hop]; exact ha
    | indexAddr t x f => simp only [aop, hop]; exact ha
    | index t x f => simp only [aop, hop]; exact ha
    | extract t x => simp only [aop, hop]; exact ha
    | makeInterface t x => simp only [aop, hop]; exact ha
    | slice t x lo hi mx =>
      cases mx with
      | none => simp only [aop, hop]; exact ha
      | some m => rw [hop] at hk; cases hk
    | call c =>
      rw [hop] at hk
      simp only [readKind] at hk
      split at hk
      · rename_i hb
        simp only [aop, hop, aCall, hb]; exact ha
      · cases hk
    | _ => rw [hop] at hk; cases hk
  · split at e
    · rename_i hk
      have fin : ∀ (hc : ∀ src dst x, o.op = .convert src dst x → ¬ ∃ e, P.underlying src = some .string ∧ P.underlying dst = some (.slice e)), (match aop P o ρ h with | some (.value v, _) => some v | _ => none) = some v → aop P o ρ h = some (.value v, h) := fun hc e => by
        split at e
        · rename_i v1 h1 ha
          cases e
          have := plain_same hk hc ha
          rw [ha, this]
        · cases e
      split at e
      · rename_i src dst x hop
        split at e
        · cases e
        · rename_i hn
          exact fin (fun s d y hh ⟨el, h1, h2⟩ => by
            rw [hop] at hh
            cases hh
            exact hn _ h1 h2) e
      · rename_i hn
        exact fin (fun s d y hh => absurd hh (hn s d y)) e
    · cases e
end Go.Ab
