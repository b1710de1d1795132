/- strconv.Itoa and strings.Join, by the shelf's contracts, over grown worlds. -/
import Derived.Test.YtaaibekhoondcaaDoorShelf
import Derived.Test.YtaaibekhoondcaaDoorSl
import Derived.Lib.LaidTab
import Derived.LaidLaws
import Derived.LaidSub
namespace Go.Proofs.YtaaibekhoondcaaDoor
open Go.RowKit

/-- The table that strconv reads lies as its own text lays it. -/
def Tab (w : World) : Prop := Lib.TabIs Tryd.prog w "internal/strconv.uint64pow10" .u64 Lib.pow10Tab
theorem Tab.grew {w w' : World} (h : Tab w) (hg : Grew w w') : Tab w' := by
  unfold Tab Lib.TabIs World.var? at *
  cases hn : Program.globalNamed Tryd.prog "internal/strconv.uint64pow10" with
  | none => rw [hn] at h; simp at h
  | some g =>
    rw [hn] at h
    simp only [Option.bind_some] at h ⊢
    cases hb : w.heap[g]? with
    | none => rw [hb] at h; simp at h
    | some o =>
      rw [hb] at h
      rw [hg.block g (Array.getElem?_eq_some_iff.1 hb).1, hb]
      exact h
set_option maxRecDepth 100000 in
theorem tab_of_laid {W : World} {laid : List (String × DataW Unit)} (h : laidMetH Tryd.prog laid W)
    (hk : (laid.filter fun x => (x.1 == "internal/strconv.uint64pow10") && x.2.handleName?.isNone) = [("internal/strconv.uint64pow10", Lib.tabData .u64 Lib.pow10Tab)]) : Tab W := by
  have h1 := (laidMetH_iff.1 h).1.filter (fun x => x.1 == "internal/strconv.uint64pow10")
  rw [List.filter_filter, hk] at h1
  exact Lib.tabIs_of_head (g := 15) (t := 171) (e := 91) (n := 20) (by kernel_rfl) (by kernel_rfl) Tryd.underlying171 Tryd.underlying91 (by kernel_rfl) (by kernel_rfl) h1
theorem Grew.of_below {w w' : World} (h : Below w.heap.size w w') : Grew w w' := Grew.of_parts h.os h.tape h.output h.size h.block

def itoaB (n : Int) : ByteArray := ⟨(Lib.itoa n).toArray⟩
def joinB (xs : List ByteArray) (sep : ByteArray) : ByteArray := ⟨(Lib.join (xs.map (·.data.toList)) sep.data.toList).toArray⟩

theorem itoa_any (n : Int) (h0 : -9223372036854775808 ≤ n) (h1 : n ≤ 9223372036854775807) (w : World) (ht : Tab w) :
    Calls Tryd.prog 60 #[.int .i64 n] w fun e w' => e = .returned (.string (itoaB n)) ∧ Grew w w' :=
  (Tryd.strconv_Itoa n h0 h1 w ht).mono fun e w' ⟨he, k, os, hw⟩ => ⟨he, by
    subst hw
    refine Grew.of_parts rfl rfl rfl ?_ (fun j hj => ?_)
    · simp [Sort.grow]
    · simp only [Sort.grow]
      rw [Array.getElem?_append_left (by simpa using hj)]; rfl⟩
theorem join_any (a : Option Addr) (cap : Nat) (xs : List ByteArray) (sep : ByteArray) (w : World) (hin : CellsIn w a (xs.map Value.string)) (hcap : xs.length ≤ cap) (hN : xs.length ≤ 1000000) (hlen : (joinB xs sep).size ≤ 140737488355328) :
    Calls Tryd.prog 61 #[.slice a xs.length cap, .string sep] w fun e w' => e = .returned (.string (joinB xs sep)) ∧ Grew w w' := by
  cases xs with
  | nil => exact (Tryd.strings_Join_none a cap sep w).mono fun e w' ⟨he, hw⟩ => ⟨he, by subst hw; exact Grew.refl _⟩
  | cons x xs =>
    obtain ⟨b, off, rfl, hb, hx⟩ := hin.at' (by simp)
    have hlen2 : (Lib.join ((x :: xs).map (·.data.toList)) sep.data.toList).length ≤ 140737488355328 := by
      have h2 : (joinB (x :: xs) sep).size = (Lib.join ((x :: xs).map (·.data.toList)) sep.data.toList).length := by
        show Array.size _ = _
        simp
      omega
    refine (Tryd.strings_Join b off cap (x :: xs) sep w (fun j y hj => ?_) hb (by omega) hcap hlen2).mono fun e w' ⟨he, hw⟩ => ⟨he, Grew.of_below hw⟩
    have hjl : j < (x :: xs).length := (List.getElem?_eq_some_iff.1 hj).1
    rw [hx j (by simpa using hjl), List.getElem_map]
    rw [List.getElem?_eq_getElem hjl] at hj
    rw [Option.some.inj hj]
end Go.Proofs.YtaaibekhoondcaaDoor
