/- Walks: Chain of an error that lies as a tree. -/
import Derived.Test.YthekgpchjonboaaGreatDoorErrC
import Derived.Deep.RegionHeld3
namespace Go
open Go.RowKit
/-- append of m elements that have just been laid, at a step of a region that draws its order. -/
theorem step_app {P : Program} {ops : Array Oper} {o : Oper} {a : Act} {w : World} {K : Act → World → Prop} {Q : Exit → Act → World → Prop} {E : Prop} (hgd : o.guard = none) (s x : Operand) (t : TypeId)
    (ho : o.op = .call { callee := .builtin .append, args := #[s, x], argTypes := #[t, t] })
    {e : TypeId} {size bytes : Nat} (hE : Elem P t e size bytes) (base : Nat) (v : Value) (n : Nat) (xs : List Value) (hs : a.eval s = v) (hown : w.ownsRow base e size v n xs)
    (B m c : Nat) (cs : Array Value) (tt : TypeId) (hx : a.eval x = .slice (some ⟨B, 0, none⟩) m c) (hb : w.heap[B]? = some (.cells cs tt (0, 0))) (hl : cs.size = m * size) (h1 : ∀ u ∈ cs.toList, u.oneCell' = true)
    (hm : 0 < m) (hbytes : (n + m) * bytes ≤ 140737488355328) (h63 : n + m ≤ maxLen) (W0 : World) (hg0 : Grew W0 w) (h00 : W0.heap.size ≤ base) (hbase : base ≤ w.heap.size)
    (h : ∀ g cap w1, Grew W0 w1 → w1.ownsRow base e size (.slice (some ⟨g, 0, none⟩) (n + m) cap) (n + m) (xs ++ cs.toList) → (∀ k, k < w.heap.size → some k ≠ v.ownBlock → w1.heap[k]? = w.heap[k]?) → w.heap.size ≤ w1.heap.size → (v.ownBlock = some g ∨ g = w.heap.size) → K (a.put o.dst (.slice (some ⟨g, 0, none⟩) (n + m) cap)) w1) :
    if Region.wanted o (yielded ops a.tmps) = true then Oper.wp P o a w K Q else E := by
  obtain ⟨ht, i, z, hi, hz, hsz, hby, hzs, h0⟩ := hE
  refine step_append_lies w hgd s x t ho base e i z size bytes ht hi hz hsz hby hzs h0 v n xs hs hown _ m c cs.toList hx (by simpa using hl) (World.news_of_block hb) h1 hm h63 hbytes hbase _ rfl (fun g cap w1 hown1 hgrow hat hlt => ?_)
  exact h g cap w1 (hg0.grown hgrow (fun k hk => by have := (hown.lt k hk).1; omega)) hown1 hgrow.block hgrow.size hat
end Go
namespace Go.Proofs.YthekgpchjonboaaGreatDoor
open Go.RowKit
set_option linter.unusedSimpArgs false
set_option linter.unusedVariables false

theorem elLink : Elem Tryz.prog 30 133 3 40 := Elem.of Tryz.underlying30 (by kernel_rfl) (by decide)
/-- A link's parts. -/
abbrev Link := ByteArray × ByteArray × Int
def linkRow (x : Link) : List Value := [.string x.1, .string x.2.1, .int .i64 x.2.2]
def linkCells (l : List Link) : List Value := l.flatMap linkRow
theorem linkCells_one (l : List Link) : ∀ u ∈ linkCells l, u.oneCell' = true := by
  intro u hu
  simp only [linkCells, List.mem_flatMap, linkRow] at hu
  obtain ⟨x, _, hu⟩ := hu
  simp at hu
  rcases hu with rfl | rfl | rfl <;> rfl
mutual
/-- All places on the first way. -/
def Err.chain : Err → List Link
  | .none => []
  | .reason _ => []
  | .fault l c i e => (l, c, i) :: e.chain
  | .many es => Err.chainL es
def Err.chainL : List Err → List Link
  | [] => []
  | e :: _ => e.chain
end

set_option maxRecDepth 100000 in
set_option maxHeartbeats 4000000 in
theorem chain_in {S : Nat → Addr} {w0 : World} {e : Err} {v : Value} (he : ErrAt S w0 e v) : ∀ (w : World) (lv : Value) (xs : List Link), Grew w0 w → w.ownsRow w0.heap.size 133 3 lv xs.length (linkCells xs) → xs.length + e.size ≤ 1000000000000 →
    Calls Tryz.prog 51 #[v, lv] w fun x w' => ∃ s, x = .returned s ∧ w'.ownsRow w0.heap.size 133 3 s (xs ++ e.chain).length (linkCells (xs ++ e.chain)) ∧ Grew w0 w' := by
  induction he with
  | none =>
    intro w lv xs hg ho hs
    have HG := Lib.hid hg
    have HO := Lib.hid ho
    clear hg ho
    go_enter Tryz.func51, Tryz.ntmps51
    go_wp2_with fail
    go_ret
    exact ⟨_, rfl, by rw [Err.chain, List.append_nil]; exact HO.out, HG.out⟩
  | reason c h0 h1 =>
    intro w lv xs hg ho hs
    have HG := Lib.hid hg
    have HO := Lib.hid ho
    clear hg ho
    go_enter Tryz.func51, Tryz.ntmps51
    go_wp2_with fail
    go_ret
    exact ⟨_, rfl, by rw [Err.chain, List.append_nil]; exact HO.out, HG.out⟩
  | @fault l c i e v b hc ht ih =>
    intro w lv xs hg ho hs
    rw [Err.size] at hs
    have HG := Lib.hid hg
    have HO := Lib.hid ho
    have IH := Lib.hid ih
    have HC := Lib.hid hc
    have hc3 : ∀ W, Grew w0 W → W.cell? ⟨b, 3, none⟩ = some v := fun W hW => (World.own_cell (Grew.heap hW hc) 3 _ rfl).1
    have HC3 := Lib.hid hc3
    have hx : xs ++ (Err.fault l c i e).chain = xs ++ [(l, c, i)] ++ e.chain := by rw [Err.chain]; simp
    rw [hx]
    clear hg ho ih hc hc3 ht hx
    go_enter Tryz.func51, Tryz.ntmps51
    go_wp2_with fail
    go_region_held3 (fun w' => w'.cell? ⟨b, 3, none⟩ = some v) (first | exact HC3.out _ HG2.out | exact HC3.out _ hg3 | exact HC3.out _ (by repeat (first | with_reducible exact HG.out | with_reducible exact Grew.refl _ | with_reducible assumption | with_reducible apply Grew.plus | with_reducible apply Grew.drewN | with_reducible apply Grew.drew | with_reducible apply Grew.alloc | with_reducible refine Grew.setCell ?_ (by simp [go_sem]; try omega) _))) (first
      | (go_at_call 75; refine (link_any w0 _ (by repeat (first | with_reducible exact HG.out | with_reducible exact Grew.refl _ | with_reducible assumption | with_reducible apply Grew.plus | with_reducible apply Grew.drewN | with_reducible apply Grew.drew | with_reducible apply Grew.alloc | with_reducible refine Grew.setCell ?_ (by simp [go_sem]; try omega) _)) HC.out).mono ?_; rintro x w1 ⟨rfl, gx, rfl⟩)
      | (refine step_app rfl _ _ 30 (by rfl) elLink w0.heap.size lv xs.length (linkCells xs) (by rfl) (HO.out.grew (by repeat (first | with_reducible exact HG.out | with_reducible exact Grew.refl _ | with_reducible assumption | with_reducible apply Grew.plus | with_reducible apply Grew.drewN | with_reducible apply Grew.drew | with_reducible apply Grew.alloc | with_reducible refine Grew.setCell ?_ (by simp [go_sem]; try omega) _))) _ 1 1 #[.string l, .string c, .int .i64 i] 133 (by rfl) (heap_alloc_at _ _ _ (by simp [go_sem])) (by rfl) (by intro u hu; simp at hu; rcases hu with rfl | rfl | rfl <;> rfl) (by omega) (by omega) (by unfold maxLen; omega) w0 (by repeat (first | with_reducible exact HG.out | with_reducible exact Grew.refl _ | with_reducible assumption | with_reducible apply Grew.plus | with_reducible apply Grew.drewN | with_reducible apply Grew.drew | with_reducible apply Grew.alloc | with_reducible refine Grew.setCell ?_ (by simp [go_sem]; try omega) _)) (Nat.le_refl _) (by have := HG.out.size; simp [go_sem]; omega) ?_; intro g c2 w2 hg2 hown2 hkeep2 hsz2 hat2; have HO2 := Lib.hid hown2; have HG2 := Lib.hid hg2; clear hown2 hg2 hkeep2 hat2)
      | (go_at_call 51; refine (IH.out _ _ (xs ++ [(l, c, i)]) HG2.out (by simpa [linkCells, linkRow] using HO2.out) (by simp; omega)).mono ?_; rintro x w3 ⟨s3, rfl, hown3, hg3⟩))
    go_wp2_with fail
    go_ret
    exact ⟨s3, rfl, hown3, hg3⟩
  | @many b cap a es vs hc hin hn hl hb h1 hk ih =>
    intro w lv xs hg ho hs
    rw [Err.size] at hs
    have hx : (Err.many es).chain = Err.chainL es := by rw [Err.chain]
    rw [hx]
    have HG := Lib.hid hg
    have HO := Lib.hid ho
    have IH := Lib.hid ih
    have HC := Lib.hid hc
    have HIN := Lib.hid hin
    have HN := Lib.hid hn
    have H1 := Lib.hid h1
    clear hg ho ih hc hin hn h1 hk hx
    cases es with
    | nil =>
      have HUW := Lib.hid (unwrapM_any w (Grew.heap HG.out HC.out) (HIN.out.grew HG.out) HN.out hl hb H1.out)
      go_enter Tryz.func51, Tryz.ntmps51
      go_wp2_with (go_at_call 73; refine HUW.out.mono ?_; rintro e w2 ⟨ar, cp, rfl, hin2, hg2, hfr2⟩; have HG2 := Lib.hid hg2; clear hin2 hg2 hfr2)
      go_ret
      exact ⟨_, rfl, by rw [Err.chainL, List.append_nil]; exact HO.out.grew HG2.out, HG.out.trans HG2.out⟩
    | cons e0 es =>
      rw [Err.sizeL] at hs
      have hv0 : 0 < vs.length := by rw [hl]; simp
      have HUW := Lib.hid (unwrapM_any w (Grew.heap HG.out HC.out) (HIN.out.grew HG.out) HN.out hl hb H1.out)
      have IH0 := Lib.hid (IH.out 0 e0 vs[0] rfl (List.getElem?_eq_getElem hv0))
      have hlen : (es.length : Int) + 1 > 0 := by omega
      rw [show Err.chainL (e0 :: es) = e0.chain by rw [Err.chainL]]
      simp only [List.length_cons] at HUW
      generalize hv00 : vs[0] = v0 at *
      go_enter Tryz.func51, Tryz.ntmps51
      go_wp2_with (first | (go_at_call 73; refine HUW.out.mono ?_; rintro e w2 ⟨ar, cp, rfl, hin2, hg2, hfr2⟩; obtain ⟨bq, off, rfl, hbq, hcell⟩ := hin2.at' hv0; have hc0 := hcell 0 hv0; rw [hv00, Nat.add_zero] at hc0; have HG2 := Lib.hid hg2; clear hin2 hg2 hfr2 hcell) | (go_at_call 51; refine (IH0.out _ _ xs (HG.out.trans HG2.out) (HO.out.grew HG2.out) (by omega)).mono ?_; rintro x w3 ⟨s3, rfl, hown3, hg3⟩))
      go_ret
      exact ⟨s3, rfl, hown3, hg3⟩

/-- Chain of an error: a list of the caller's own. -/
theorem chain_any {S : Nat → Addr} {w : World} {e : Err} {v : Value} (he : ErrAt S w e v) (hs : e.size ≤ 1000000000000) :
    Calls Tryz.prog 21 #[v] w fun x w' => ∃ s, x = .returned s ∧ w'.ownsRow w.heap.size 133 3 s e.chain.length (linkCells e.chain) ∧ Grew w w' := by
  have T := Lib.hid (chain_in he w (.slice none 0 0) [] (Grew.refl w) ⟨rfl, .inl ⟨rfl, rfl⟩⟩ (by simpa using hs))
  go_enter Tryz.func21, Tryz.ntmps21
  go_wp2_with (go_at_call 51; refine T.out.mono ?_; rintro x w3 ⟨s3, rfl, hown3, hg3⟩; rw [List.nil_append] at hown3)
  go_ret
  exact ⟨s3, rfl, hown3, hg3⟩
end Go.Proofs.YthekgpchjonboaaGreatDoor
