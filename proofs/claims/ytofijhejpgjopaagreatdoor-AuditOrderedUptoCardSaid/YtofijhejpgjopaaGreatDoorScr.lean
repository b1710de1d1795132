/- Scripts as plain data: steps, letters, reading and writing. No program in sight. -/
import GoSem.Core.Value
import GoSem.Core.Utf8
namespace Go

/-- A text's bytes out of its characters. -/
def utf8Of (l : List Int) : ByteArray := l.foldl (fun s n => s ++ Utf8.encode n) ByteArray.empty

structure StepD where
  kind : Int
  a : Int
  b : Int
  c : Int
  text : ByteArray
deriving DecidableEq

namespace Scr
def cells (s : StepD) : Array Value := #[.int .i64 s.kind, .int .i64 s.a, .int .i64 s.b, .int .i64 s.c, .string s.text]
/-- What a byte means. -/
def letter (b : Nat) : Int := if b < 208 then 97 + (b % 26 : Nat) else if b < 224 then 10 else if b < 240 then 233 else 19990
def hd (l : List UInt8) : Nat := (l.headD 0).toNat
def texts (k : Int) : Bool := k == 0 || k == 4
def chars (l : List UInt8) : List Int := l.map fun b => letter b.toNat
def readOne (l : List UInt8) : StepD × List UInt8 :=
  if texts (hd l % 14 : Nat) then
    (⟨(hd l % 14 : Nat), hd (l.drop 1), hd (l.drop 2), hd (l.drop 3), utf8Of (chars ((l.drop 5).take (hd (l.drop 4) % 16)))⟩, (l.drop 5).drop (hd (l.drop 4) % 16))
  else (⟨(hd l % 14 : Nat), hd (l.drop 1), hd (l.drop 2), hd (l.drop 3), ByteArray.empty⟩, l.drop 4)
def readF : Nat → List UInt8 → List StepD
  | 0, _ => []
  | _ + 1, [] => []
  | f + 1, l => (readOne l).1 :: readF f (readOne l).2
def readL (l : List UInt8) : List StepD := readF l.length l

theorem readOne_len (l : List UInt8) (h : l ≠ []) : (readOne l).2.length < l.length := by
  have : 0 < l.length := List.length_pos_iff.2 h
  unfold readOne
  split <;> simp <;> omega
theorem readF_more : ∀ (f : Nat) (l : List UInt8), l.length ≤ f → readF f l = readF l.length l
  | 0, l, h => by
    have : l = [] := List.length_eq_zero_iff.1 (by omega)
    subst this; rfl
  | f + 1, [], _ => rfl
  | f + 1, b :: l, h => by
    show (readOne (b :: l)).1 :: readF f (readOne (b :: l)).2 = (readOne (b :: l)).1 :: readF l.length (readOne (b :: l)).2
    have h1 := readOne_len (b :: l) (by simp)
    simp only [List.length_cons] at h h1
    rw [readF_more f _ (by omega), readF_more l.length _ (by omega)]
theorem readL_nil : readL [] = [] := rfl
theorem readL_cons (l : List UInt8) (h : l ≠ []) : readL l = (readOne l).1 :: readL (readOne l).2 := by
  cases l with
  | nil => exact absurd rfl h
  | cons b l =>
    show (readOne (b :: l)).1 :: readF l.length (readOne (b :: l)).2 = _
    have h1 := readOne_len (b :: l) (by simp)
    simp only [List.length_cons] at h1
    rw [readF_more l.length _ (by omega)]; rfl
end Scr
end Go
