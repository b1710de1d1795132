/- Errors in memory: the program's (ErrIn) and the document's (RIn), with the blocks in which they lie; what keeps them; the document's New. -/
import Derived.Test.YtaaibekhoondcaaDoorTree
import Derived.Test.YtaaibekhoondcaaDoorErrK
namespace Go.Proofs.YtaaibekhoondcaaDoor
open Go.RowKit
set_option linter.unusedSimpArgs false
set_option linter.unusedVariables false

/-- An error of the program's whose blocks all lie in U. -/
inductive ErrIn (S : Nat → Addr) (w : World) (U : Nat → Prop) : Err → Value → Prop
  | none : ErrIn S w U .none .nilIface
  | reason (c : Nat) : 1 ≤ c → c ≤ 14 → ErrIn S w U (.reason c) (errV (S c))
  | fault {l c : ByteArray} {i : Int} {e : Err} {v : Value} {b : Nat} : U b → w.heap[b]? = some (.cells #[.string l, .string c, .int .i64 i, v] 106 (0, 0)) → ErrIn S w U e v → ErrIn S w U (.fault l c i e) (faultV ⟨b, 0, none⟩)
  | many {b cap : Nat} {a : Option Addr} {es : List Err} {vs : List Value} : U b → (∀ q, a = some q → vs ≠ [] → U q.block) → w.heap[b]? = some (.cells #[.slice a es.length cap] 156 (0, 0)) → CellsIn w a vs → (a = Option.none → vs.length = 0 ∧ cap = 0) → vs.length = es.length → es.length ≤ 1000000000000 → (∀ u ∈ vs, u.oneCell' = true) →
      (∀ (i : Nat) e v, es[i]? = some e → vs[i]? = some v → ErrIn S w U e v) → ErrIn S w U (.many es) (manyV ⟨b, 0, none⟩)

theorem ErrIn.at' {S : Nat → Addr} {w : World} {U : Nat → Prop} {e : Err} {v : Value} (h : ErrIn S w U e v) : ErrAt S w e v := by
  induction h with
  | none => exact .none
  | reason c h0 h1 => exact .reason c h0 h1
  | fault _ hb _ ih => exact .fault hb ih
  | many _ _ hb hi hn hl hm h1 _ ih => exact .many hb hi hn hl hm h1 ih
theorem ErrIn.keep {S : Nat → Addr} {w w' : World} {U U' : Nat → Prop} {e : Err} {v : Value} (h : ErrIn S w U e v) (hU : ∀ b, U b → b < w.heap.size → U' b ∧ w'.heap[b]? = w.heap[b]?) : ErrIn S w' U' e v := by
  induction h with
  | none => exact .none
  | reason c h0 h1 => exact .reason c h0 h1
  | fault hu hb _ ih =>
    obtain ⟨h1, h2⟩ := hU _ hu (Array.getElem?_eq_some_iff.1 hb).1
    exact .fault h1 (by rw [h2]; exact hb) ih
  | @many b cap a es vs hu hv hb hi hn hl hm h1 _ ih =>
    obtain ⟨h3, h4⟩ := hU _ hu (Array.getElem?_eq_some_iff.1 hb).1
    refine .many h3 (fun q hq hvs => ?_) (by rw [h4]; exact hb) (fun hvs => ?_) hn hl hm h1 ih
    · obtain ⟨b', off, e, hc⟩ := hi hvs
      rw [hq] at e; cases e
      exact (hU _ (hv _ hq hvs) (World.cellsAt_lt hc (List.length_pos_iff.2 hvs))).1
    · obtain ⟨b', off, rfl, hc⟩ := hi hvs
      have hlt := World.cellsAt_lt hc (List.length_pos_iff.2 hvs)
      exact ⟨b', off, rfl, by rw [World.cellsAt_congr (w := w) _ _ (fun o s => World.cell?_of_block (w := w) (hU _ (hv _ rfl hvs) hlt).2)]; exact hc⟩
theorem ErrIn.nil_iff {S : Nat → Addr} {w : World} {U : Nat → Prop} {e : Err} {v : Value} (h : ErrIn S w U e v) : (e.isNone = true ∧ v = .nilIface) ∨ (e.isNone = false ∧ ∃ t u, v = .iface t u) := by
  cases h <;> simp [Err.isNone, errV, faultV, manyV]
theorem ErrIn.grew {S : Nat → Addr} {w w' : World} {U : Nat → Prop} {e : Err} {v : Value} (g : Grew w w') (h : ErrIn S w U e v) : ErrIn S w' U e v := h.keep (fun b hb hl => ⟨hb, g.block b hl⟩)

def codeI (c : Nat) : Int := if c = 14 then 99 else c
def kidsOf : Err → List Err
  | .fault _ _ _ e => [e]
  | .many es => es
  | _ => []
/-- What a node of the document's says of itself. -/
inductive RHead : Err → Int → Int → ByteArray → ByteArray → Int → Prop
  | none : RHead .none 0 0 ⟨#[]⟩ ⟨#[]⟩ 0
  | reason (c : Nat) : 1 ≤ c → c ≤ 14 → RHead (.reason c) 1 (codeI c) ⟨#[]⟩ ⟨#[]⟩ 0
  | fault (l b : ByteArray) (i : Int) (e : Err) : RHead (.fault l b i e) 2 0 l b i
  | many (es : List Err) : RHead (.many es) 3 0 ⟨#[]⟩ ⟨#[]⟩ 0
/-- An error of the document's, as six cells. -/
inductive RIn (w : World) (U : Nat → Prop) : Err → List Value → Prop
  | mk {e : Err} {k c i : Int} {l b : ByteArray} {ad : Option Addr} {cap : Nat} {rows : List (List Value)} :
      RHead e k c l b i → rows.length = (kidsOf e).length → rows.length ≤ cap → cap ≤ 9223372036854775807 → (ad = none → rows.length = 0 ∧ cap = 0) →
      (∀ (j : Nat) (r : List Value), rows[j]? = some r → ∃ bl off, ad = some ⟨bl, off, none⟩ ∧ U bl ∧ w.cellsAt ⟨bl, off + j * 6, none⟩ 6 = some r) →
      (∀ (j : Nat) (t : Err) (r : List Value), (kidsOf e)[j]? = some t → rows[j]? = some r → RIn w U t r) →
      RIn w U e [.int .i64 k, .int .i64 c, .string l, .string b, .int .i64 i, .slice ad rows.length cap]
theorem RIn.keep {w w' : World} {U U' : Nat → Prop} {e : Err} {cs : List Value} (h : RIn w U e cs) (hU : ∀ b, U b → b < w.heap.size → U' b ∧ w'.heap[b]? = w.heap[b]?) : RIn w' U' e cs := by
  induction h with
  | mk h1 h2 h3 h4 h5 h6 _ ih =>
    refine .mk h1 h2 h3 h4 h5 (fun j r hr => ?_) ih
    obtain ⟨bl, off, rfl, hu, hc⟩ := h6 j r hr
    have hlt := World.cellsAt_lt hc (by omega)
    obtain ⟨h7, h8⟩ := hU _ hu hlt
    exact ⟨bl, off, rfl, h7, by rw [World.cellsAt_congr (w := w) _ _ (fun o s => World.cell?_of_block (w := w) h8)]; exact hc⟩
theorem RIn.grew {w w' : World} {U : Nat → Prop} {e : Err} {cs : List Value} (g : Grew w w') (h : RIn w U e cs) : RIn w' U e cs := h.keep (fun b hb hl => ⟨hb, g.block b hl⟩)
theorem RIn.len {w : World} {U : Nat → Prop} {e : Err} {cs : List Value} (h : RIn w U e cs) : cs.length = 6 := by cases h; rfl
theorem RIn.nothing (w : World) (U : Nat → Prop) : RIn w U .none [.int .i64 0, .int .i64 0, .string ⟨#[]⟩, .string ⟨#[]⟩, .int .i64 0, .slice Option.none 0 0] :=
  .mk (rows := []) .none rfl (Nat.le_refl _) (by omega) (fun _ => ⟨rfl, rfl⟩) (fun j r h => by simp at h) (fun j t r h => by simp [kidsOf] at h)
theorem RIn.reasons (w : World) (U : Nat → Prop) (c : Nat) (h0 : 1 ≤ c) (h1 : c ≤ 14) : RIn w U (.reason c) [.int .i64 1, .int .i64 (codeI c), .string ⟨#[]⟩, .string ⟨#[]⟩, .int .i64 0, .slice Option.none 0 0] :=
  .mk (rows := []) (.reason c h0 h1) rfl (Nat.le_refl _) (by omega) (fun _ => ⟨rfl, rfl⟩) (fun j r h => by simp at h) (fun j t r h => by simp [kidsOf] at h)
theorem RIn.one {w : World} {U : Nat → Prop} {e : Err} {cs : List Value} (h : RIn w U e cs) : ∀ u ∈ cs, u.oneCell' = true := by
  cases h
  intro u hu
  simp only [List.mem_cons, List.not_mem_nil, or_false] at hu
  rcases hu with rfl | rfl | rfl | rfl | rfl | rfl <;> rfl
/-- The node's kind tells whether it is nothing. -/
theorem RIn.kind {w : World} {U : Nat → Prop} {e : Err} {cs : List Value} (h : RIn w U e cs) : ∃ (k c i : Int) (l b : ByteArray) (sa : Option Addr) (sn sc : Nat), cs = [.int .i64 k, .int .i64 c, .string l, .string b, .int .i64 i, .slice sa sn sc] ∧ ((k = 0 ∧ e.isNone = true) ∨ (k ≠ 0 ∧ 0 < k ∧ k < 4 ∧ e.isNone = false)) := by
  cases h with
  | mk h1 =>
    cases h1 <;> exact ⟨_, _, _, _, _, _, _, _, rfl, by simp [Err.isNone]⟩

theorem set1 {W0 W : World} {B : Nat} {old : Array Value} {t : TypeId} (i : Nat) (c : Value) (h : W.heap[B]? = some (.cells old t (0, 0))) (hB : W0.heap.size ≤ B) (g : Grew W0 W) :
    (W.setCell ⟨B, i, none⟩ c).heap[B]? = some (.cells (old.setIfInBounds i c) t (0, 0)) ∧ (∀ q, q ≠ B → (W.setCell ⟨B, i, none⟩ c).heap[q]? = W.heap[q]?) ∧ (W.setCell ⟨B, i, none⟩ c).heap.size = W.heap.size ∧ Grew W0 (W.setCell ⟨B, i, none⟩ c) :=
  ⟨World.own_setCell h c, fun q hq => World.block_setCell _ _ _ _ hq, World.setCell_size _ _ _, g.setCell (p := ⟨B, i, none⟩) hB c⟩
theorem six_set (o0 o1 o2 o3 o4 o5 c0 c1 c2 c3 c4 c5 : Value) : ((((((#[o0, o1, o2, o3, o4, o5] : Array Value).setIfInBounds 0 c0).setIfInBounds 1 c1).setIfInBounds 2 c2).setIfInBounds 3 c3).setIfInBounds 4 c4).setIfInBounds 5 c5 = #[c0, c1, c2, c3, c4, c5] := rfl
/-- Six cells of a block of the call's own, written one by one. -/
theorem set6 {W0 W : World} {B : Nat} {o0 o1 o2 o3 o4 o5 : Value} {t : TypeId} (h : W.heap[B]? = some (.cells #[o0, o1, o2, o3, o4, o5] t (0, 0))) (hB : W0.heap.size ≤ B) (g : Grew W0 W) (c0 c1 c2 c3 c4 c5 : Value) (W' : World)
    (hW : W' = (((((W.setCell ⟨B, 0, none⟩ c0).setCell ⟨B, 1, none⟩ c1).setCell ⟨B, 2, none⟩ c2).setCell ⟨B, 3, none⟩ c3).setCell ⟨B, 4, none⟩ c4).setCell ⟨B, 5, none⟩ c5) :
    W'.heap[B]? = some (.cells #[c0, c1, c2, c3, c4, c5] t (0, 0)) ∧ (∀ q, q ≠ B → W'.heap[q]? = W.heap[q]?) ∧ W'.heap.size = W.heap.size ∧ Grew W0 W' := by
  obtain ⟨h0, e0, s0, g0⟩ := set1 0 c0 h hB g
  generalize W.setCell ⟨B, 0, none⟩ c0 = w0 at *
  obtain ⟨h1, e1, s1, g1⟩ := set1 1 c1 h0 hB g0
  generalize w0.setCell ⟨B, 1, none⟩ c1 = w1 at *
  obtain ⟨h2, e2, s2, g2⟩ := set1 2 c2 h1 hB g1
  generalize w1.setCell ⟨B, 2, none⟩ c2 = w2 at *
  obtain ⟨h3, e3, s3, g3⟩ := set1 3 c3 h2 hB g2
  generalize w2.setCell ⟨B, 3, none⟩ c3 = w3 at *
  obtain ⟨h4, e4, s4, g4⟩ := set1 4 c4 h3 hB g3
  generalize w3.setCell ⟨B, 4, none⟩ c4 = w4 at *
  obtain ⟨h5, e5, s5, g5⟩ := set1 5 c5 h4 hB g4
  subst hW
  rw [six_set] at h5
  exact ⟨h5, fun q hq => by rw [e5 q hq, e4 q hq, e3 q hq, e2 q hq, e1 q hq, e0 q hq], by omega, g5⟩
/-- What the walk asks of six cells. -/
theorem six {W : World} {B : Nat} {c0 c1 c2 c3 c4 c5 : Value} {t : TypeId} (h : W.heap[B]? = some (.cells #[c0, c1, c2, c3, c4, c5] t (0, 0))) :
    (W.cell? ⟨B, 0, none⟩ = some c0 ∧ W.frozen? ⟨B, 0, none⟩ = false) ∧ (W.cell? ⟨B, 1, none⟩ = some c1 ∧ W.frozen? ⟨B, 1, none⟩ = false) ∧ (W.cell? ⟨B, 2, none⟩ = some c2 ∧ W.frozen? ⟨B, 2, none⟩ = false) ∧ (W.cell? ⟨B, 3, none⟩ = some c3 ∧ W.frozen? ⟨B, 3, none⟩ = false) ∧ (W.cell? ⟨B, 4, none⟩ = some c4 ∧ W.frozen? ⟨B, 4, none⟩ = false) ∧ (W.cell? ⟨B, 5, none⟩ = some c5 ∧ W.frozen? ⟨B, 5, none⟩ = false) :=
  ⟨World.own_cell h 0 _ rfl, World.own_cell h 1 _ rfl, World.own_cell h 2 _ rfl, World.own_cell h 3 _ rfl, World.own_cell h 4 _ rfl, World.own_cell h 5 _ rfl⟩

set_option maxRecDepth 100000 in
set_option maxHeartbeats 2000000 in
/-- The document's New. -/
theorem rnew_any (l b : ByteArray) (i : Int) {U : Nat → Prop} {e : Err} {rc : Array Value} (w : World) (h : RIn w U e rc.toList) :
    Calls Tryd.prog 88 #[.string l, .string b, .int .i64 i, .agg rc] w fun x w' => ∃ rc' : Array Value, x = .returned (.agg rc') ∧ RIn w' (fun q => U q ∨ w.heap.size ≤ q) (newE l b i e) rc'.toList ∧ Grew w w' := by
  have hH := h
  obtain ⟨k, c, j, l', b', sa, sn, sc, hrc, hk⟩ := h.kind
  obtain ⟨rl⟩ := rc
  simp only at hrc
  subst hrc
  have HH := Lib.hid hH
  clear h hH
  rcases hk with ⟨rfl, hn⟩ | ⟨hk0, hk1, hk2, hn⟩
  · have he : newE l b i e = .none := by simp [newE, hn]
    rw [he]
    go_enter Tryd.func88, Tryd.ntmps88
    go_wp2_with fail
    exact bodyPost_ret (v := .agg #[.int .i64 0, .int .i64 0, .string ⟨#[]⟩, .string ⟨#[]⟩, .int .i64 0, .slice none 0 0]) (by simp [results, Tryd.results88, go_sem]) rfl ⟨_, rfl, RIn.nothing _ _, by repeat (first | with_reducible exact HG.out | with_reducible exact Grew.refl _ | with_reducible assumption | with_reducible apply Grew.plus | with_reducible apply Grew.drewN | with_reducible apply Grew.drew | with_reducible apply Grew.alloc | with_reducible refine Grew.setCell ?_ (by simp [go_sem]; try omega) _)⟩
  · have he : newE l b i e = .fault l b (max i (-1)) e := by simp [newE, hn]
    rw [he]
    have key : ∀ (j' : Int) (W : World), j' = max i (-1) → Grew w W → W.heap[w.heap.size + 1 + 1]? = some (.cells #[.int .i64 k, .int .i64 c, .string l', .string b', .int .i64 j, .slice sa sn sc] 66 (0, 0)) →
        RIn W (fun q => U q ∨ w.heap.size ≤ q) (.fault l b (max i (-1)) e) [.int .i64 2, .int .i64 0, .string l, .string b, .int .i64 j', .slice (some ⟨w.heap.size + 1 + 1, 0, none⟩) 1 1] := fun j' W hj hg hb => by
      subst hj
      refine .mk (rows := [[.int .i64 k, .int .i64 c, .string l', .string b', .int .i64 j, .slice sa sn sc]]) (.fault l b _ e) rfl (Nat.le_refl _) (by omega) (fun h => by cases h) (fun i' r hr => ?_) (fun i' t r ht hr => ?_)
      · cases i' with
        | zero =>
          simp only [List.getElem?_cons_zero, Option.some.injEq] at hr
          subst hr
          exact ⟨_, 0, rfl, .inr (by omega), World.cellsAt_block hb 6 rfl⟩
        | succ n => simp at hr
      · cases i' with
        | zero =>
          simp only [List.getElem?_cons_zero, Option.some.injEq, kidsOf] at hr ht
          subst hr; subst ht
          exact (HH.out.grew hg).keep (fun q hq _ => ⟨.inl hq, rfl⟩)
        | succ n => simp at hr
    have KEY := Lib.hid key
    clear key
    by_cases hi : i < 0
    · go_enter Tryd.func88, Tryd.ntmps88
      go_wp2_with fail
      exact bodyPost_ret (v := .agg #[.int .i64 2, .int .i64 0, .string l, .string b, .int .i64 (-1), .slice (some ⟨w.heap.size + 1 + 1, 0, none⟩) 1 1]) (by simp [results, Tryd.results88, go_sem]) rfl ⟨_, rfl, KEY.out (-1) _ (by omega) (by repeat (first | with_reducible exact HG.out | with_reducible exact Grew.refl _ | with_reducible assumption | with_reducible apply Grew.plus | with_reducible apply Grew.drewN | with_reducible apply Grew.drew | with_reducible apply Grew.alloc | with_reducible refine Grew.setCell ?_ (by simp [go_sem]; try omega) _)) (heap_alloc_at _ _ _ (by simp [go_sem])), by repeat (first | with_reducible exact HG.out | with_reducible exact Grew.refl _ | with_reducible assumption | with_reducible apply Grew.plus | with_reducible apply Grew.drewN | with_reducible apply Grew.drew | with_reducible apply Grew.alloc | with_reducible refine Grew.setCell ?_ (by simp [go_sem]; try omega) _)⟩
    · go_enter Tryd.func88, Tryd.ntmps88
      go_wp2_with fail
      exact bodyPost_ret (v := .agg #[.int .i64 2, .int .i64 0, .string l, .string b, .int .i64 i, .slice (some ⟨w.heap.size + 1 + 1, 0, none⟩) 1 1]) (by simp [results, Tryd.results88, go_sem]) rfl ⟨_, rfl, KEY.out i _ (by omega) (by repeat (first | with_reducible exact HG.out | with_reducible exact Grew.refl _ | with_reducible assumption | with_reducible apply Grew.plus | with_reducible apply Grew.drewN | with_reducible apply Grew.drew | with_reducible apply Grew.alloc | with_reducible refine Grew.setCell ?_ (by simp [go_sem]; try omega) _)) (heap_alloc_at _ _ _ (by simp [go_sem])), by repeat (first | with_reducible exact HG.out | with_reducible exact Grew.refl _ | with_reducible assumption | with_reducible apply Grew.plus | with_reducible apply Grew.drewN | with_reducible apply Grew.drew | with_reducible apply Grew.alloc | with_reducible refine Grew.setCell ?_ (by simp [go_sem]; try omega) _)⟩
end Go.Proofs.YtaaibekhoondcaaDoor
