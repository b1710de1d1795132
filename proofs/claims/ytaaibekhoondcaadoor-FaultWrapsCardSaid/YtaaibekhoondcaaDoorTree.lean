/- Trees as arguments: what they are, where they lie; what is made of them, in plain Lean. -/
import Derived.Test.YtaaibekhoondcaaDoorProg
import Derived.Test.YtaaibekhoondcaaDoorOpen
import Derived.Test.YtaaibekhoondcaaDoorErr
namespace Go.Proofs.YtaaibekhoondcaaDoor
open Go.RowKit Go.ChangeShapes Go.WideShapes
set_option linter.unusedSimpArgs false
set_option linter.unusedVariables false

inductive TreeD where
  | node (k c a : Int) (l b : ByteArray) (kids : List TreeD)

def In64 (n : Int) : Prop := -9223372036854775808 ≤ n ∧ n ≤ 9223372036854775807

/-- A tree's six cells, in a world that holds its kids. -/
inductive TreeAt (w : World) : TreeD → List Value → Prop
  | node {k c a : Int} {l b : ByteArray} {kids : List TreeD} {ad : Option Addr} {cap : Nat} {rows : List (List Value)} :
      In64 k → In64 c → In64 a → kids.length ≤ cap → cap ≤ 9223372036854775807 → rows.length = kids.length →
      (∀ (i : Nat) (r : List Value), rows[i]? = some r → ∃ bl off, ad = some ⟨bl, off, none⟩ ∧ w.cellsAt ⟨bl, off + i * 6, none⟩ 6 = some r) →
      (∀ (i : Nat) (t : TreeD) (r : List Value), kids[i]? = some t → rows[i]? = some r → TreeAt w t r) →
      TreeAt w (.node k c a l b kids) [.int .i64 k, .int .i64 c, .int .i64 a, .string l, .string b, .slice ad kids.length cap]

theorem cellsAt_grew {w w' : World} (g : Grew w w') {a : Addr} {n : Nat} {cs : List Value} (h : w.cellsAt a n = some cs) : w'.cellsAt a n = some cs := by
  obtain ⟨x, rfl⟩ := g
  rw [World.cellsAt_plus, h]; rfl
theorem TreeAt.grew {w w' : World} (g : Grew w w') {t : TreeD} {cs : List Value} (h : TreeAt w t cs) : TreeAt w' t cs := by
  induction h with
  | node h1 h2 h3 h4 h5 h6 h7 _ ih =>
    exact .node h1 h2 h3 h4 h5 h6 (fun i r hr => by
      obtain ⟨bl, off, e, hc⟩ := h7 i r hr
      exact ⟨bl, off, e, cellsAt_grew g hc⟩) ih

section
variable {H : Type} {enc : TypeId × Value → H} {W : World} {base : Nat} {sp : Nat → Bool} {held : Bool} {v : Value} {d : DataW H} {p : List MemPlace}
theorem cellsT : Tryd.prog.cellsOf 63 = 6 := by kernel_rfl
theorem cellsI : Tryd.prog.cellsOf 3 = 1 := by kernel_rfl
theorem cellsS : Tryd.prog.cellsOf 9 = 1 := by kernel_rfl
theorem cellsK : Tryd.prog.cellsOf 61 = 1 := by kernel_rfl
set_option maxRecDepth 100000 in
theorem tree_cells : ∀ (fuel : Nat) (cs : List Value) (x : DataW H × List MemPlace), DataW.trod enc Tryd.prog W 0 sp held fuel 63 cs = some x → ∃ t, TreeAt W t cs := by
  intro fuel
  induction fuel using Nat.strongRecOn with
  | _ fuel ih =>
    intro cs x h
    obtain ⟨xs, n, rfl, _, hlen, hl, hf⟩ := DataW.trod_struct Tryd.underlying63 h
    rw [cellsT] at hlen
    match cs, hlen with
    | [c0, c1, c2, c3, c4, c5], _ =>
    match xs, hl with
    | [x0, x1, x2, x3, x4, x5], _ =>
    have f0 := hf 0 _ rfl
    have f1 := hf 1 _ rfl
    have f2 := hf 2 _ rfl
    have f3 := hf 3 _ rfl
    have f4 := hf 4 _ rfl
    have f5 := hf 5 _ rfl
    simp [cellsI, cellsS, cellsK] at f0 f1 f2 f3 f4 f5
    obtain ⟨k, e0, _, w0⟩ := DataW.trod_int Tryd.underlying3 f0
    obtain ⟨c, e1, _, w1⟩ := DataW.trod_int Tryd.underlying3 f1
    obtain ⟨a, e2, _, w2⟩ := DataW.trod_int Tryd.underlying3 f2
    obtain ⟨l, e3, _, _⟩ := DataW.trod_string Tryd.underlying9 f3
    obtain ⟨b, e4, _, _⟩ := DataW.trod_string Tryd.underlying9 f4
    simp only [List.cons.injEq, and_true] at e0 e1 e2 e3 e4
    subst e0; subst e1; subst e2; subst e3; subst e4
    rcases DataW.trod_slice Tryd.underlying61 f5 with ⟨e5, _⟩ | ⟨ad, len, cap, elems, rest, m, rfl, e5, _, _, hlc, hcm, hel, hx, _⟩
    · simp only [List.cons.injEq, and_true] at e5
      subst e5
      exact ⟨.node k c a l b [], .node (rows := []) (kids := []) (bounds_i64 w0) (bounds_i64 w1) (bounds_i64 w2) (Nat.le_refl _) (Nat.zero_le _) rfl (fun i r h => by simp at h) (fun i t r h => by simp at h)⟩
    · simp only [List.cons.injEq, and_true] at e5
      subst e5
      rw [cellsT] at hx
      have hrow : ∀ i, i < len → ∃ z : TreeD × List Value, (∃ bl off, some ad = some (⟨bl, off, none⟩ : Addr) ∧ W.cellsAt ⟨bl, off + i * 6, none⟩ 6 = some z.2) ∧ TreeAt W z.1 z.2 := by
        intro i hi
        have h1 := hx i hi
        rw [List.getElem?_eq_getElem (by omega)] at h1
        obtain ⟨row, h2, h3⟩ := Option.bind_eq_some_iff.1 h1
        obtain ⟨t, ht⟩ := ih m (by omega) row _ h3
        obtain ⟨h4, h5, h6⟩ := World.cells?_some h2
        refine ⟨⟨t, row⟩, ?_, ht⟩
        obtain ⟨bl, off, spt⟩ := ad
        have hs' : spt = none := by
          have g1 := hx 0 (by omega)
          rw [List.getElem?_eq_getElem (by omega)] at g1
          obtain ⟨row0, g2, _⟩ := Option.bind_eq_some_iff.1 g1
          obtain ⟨_, g5, g6⟩ := World.cells?_some g2
          have g7 := g6 0 (by omega)
          simp only [Nat.zero_mul, Addr.add, if_true] at g7
          rw [List.getElem?_eq_getElem (by omega)] at g7
          exact World.cell?_spot g7
        subst hs'
        refine ⟨bl, off, rfl, World.cellsAt_of h5 (fun j hj => ?_)⟩
        have h8 := h6 j hj
        rw [← h8]
        congr 1
        simp only [Addr.add]
        split <;> split <;> simp_all <;> omega
      obtain ⟨zs, hzl, hz⟩ := list_choose (α := TreeD × List Value) ⟨.node 0 0 0 ⟨#[]⟩ ⟨#[]⟩ [], []⟩ (n := len) (p := fun i z => (∃ bl off, some ad = some (⟨bl, off, none⟩ : Addr) ∧ W.cellsAt ⟨bl, off + i * 6, none⟩ 6 = some z.2) ∧ TreeAt W z.1 z.2) hrow
      have hk : (zs.map (·.1)).length = len := by simp [hzl]
      refine ⟨.node k c a l b (zs.map (·.1)), ?_⟩
      rw [← hk]
      have key : ∀ i z, zs[i]? = some z → (∃ bl off, some ad = some (⟨bl, off, none⟩ : Addr) ∧ W.cellsAt ⟨bl, off + i * 6, none⟩ 6 = some z.2) ∧ TreeAt W z.1 z.2 := fun i z hzi => by
        have hi : i < zs.length := (List.getElem?_eq_some_iff.1 hzi).1
        have := hz i (by omega)
        rwa [List.getD_eq_getElem?_getD, hzi] at this
      refine .node (rows := zs.map (·.2)) (bounds_i64 w0) (bounds_i64 w1) (bounds_i64 w2) (by rw [hk]; exact hlc) (by unfold maxLen at hcm; exact hcm) (by simp) (fun i r hr => ?_) (fun i t r ht hr => ?_)
      · rw [List.getElem?_map, Option.map_eq_some_iff] at hr
        obtain ⟨z, hz1, rfl⟩ := hr
        exact (key i z hz1).1
      · rw [List.getElem?_map, Option.map_eq_some_iff] at hr ht
        obtain ⟨z, hz1, rfl⟩ := hr
        obtain ⟨z', hz2, rfl⟩ := ht
        rw [hz1] at hz2; cases hz2
        exact (key i z hz1).2
set_option maxRecDepth 100000 in
theorem open_tree (hv : Value.okWide Tryd.prog W .any base 63 v) (h : DataW.Trod enc Tryd.prog W 0 sp held 63 v d p) :
    ∃ T : TreeD × Array Value, v = .agg T.2 ∧ TreeAt W T.1 T.2.toList := by
  obtain ⟨cs, rfl, _⟩ := okWide_struct Tryd.underlying63 hv
  obtain ⟨fuel, hf⟩ := h
  obtain ⟨t, ht⟩ := tree_cells fuel _ _ hf
  exact ⟨⟨t, cs⟩, rfl, ht⟩
end

/-! ### What is made of a tree -/
def Err.isNone : Err → Bool
  | .none => true
  | _ => false
/-- The reason that a tree's number means (14: the one without a number). -/
def rsn (c : Int) : Nat := if c % 14 = 0 then 14 else (c % 14).toNat
theorem rsn_bounds (c : Int) : 1 ≤ rsn c ∧ rsn c ≤ 14 := by
  unfold rsn; split <;> omega
def newE (l b : ByteArray) (a : Int) (e : Err) : Err := if e.isNone then .none else .fault l b (max a (-1)) e
def joinE (es : List Err) : Err :=
  match es.filter fun e => !e.isNone with
  | [] => .none
  | [e] => e
  | e :: e' :: l => .many (e :: e' :: l)
def mkL (g : Int → TreeD → Err × Int) : Int → List TreeD → List Err × Int
  | r, [] => ([], r)
  | r, t :: l => ((g r t).1 :: (mkL g (g r t).2 l).1, (mkL g (g r t).2 l).2)
def mk : Nat → Int → TreeD → Err × Int
  | 0, r, _ => (.none, r - 1)
  | f + 1, r, .node k c a l b kids =>
    if r - 1 < 0 then (.none, r - 1)
    else if k % 4 = 1 then (.reason (rsn c), r - 1)
    else if k % 4 = 2 then
      match kids with
      | [] => (.none, r - 1)
      | t :: _ => (newE l b a (mk f (r - 1) t).1, (mk f (r - 1) t).2)
    else if k % 4 = 3 then (joinE (mkL (mk f) (r - 1) (kids.take 6)).1, (mkL (mk f) (r - 1) (kids.take 6)).2)
    else (.none, r - 1)
end Go.Proofs.YtaaibekhoondcaaDoor
