/- Texts of this proof, merged (printed by wip/pmerge.py out of EyeG, EyeH, EyeI, EyeJ, EyeK). -/
import Derived.Test.YtnhmekdnfinmiaaGreatDoorQ3
import Derived.Deep.MidRow
import Derived.Laws.IdiomStrings
/- Walks: image's eye: edits. -/
namespace Go.Par
def editB (l : List UInt8) (_ : Nat) (xs : List PChange) : PM (List PChange) := (pChange l).bind fun c => PM.pure (xs ++ [c])
def editsB (l : List UInt8) (_ : Nat) (xs : List (List PChange)) : PM (List (List PChange)) := (pEdit l).bind fun c => PM.pure (xs ++ [c])
theorem pEdit_eq (l : List UInt8) : pEdit l = (pCount l 4).bind fun n => pLoop (editB l) n 0 [] := rfl
theorem pEdits_eq (l : List UInt8) : pEdits l = (pCount l 1).bind fun n => pLoop (editsB l) n 0 [] := rfl
def chRow (x : PChange) : List Value := [.int .i64 x.kind, .int .i64 x.id.ep, .int .i64 x.id.rp, .int .i64 x.id.nb]
theorem chRow_len (x : PChange) : (chRow x).length = 4 := rfl
end Go.Par
namespace Go.Proofs.YtnhmekdnfinmiaaGreatDoor
open Go.RowKit Go.Par
set_option linter.unusedSimpArgs false
set_option linter.unusedVariables false
theorem elChange : Elem Tryz.prog 114 116 4 32 := Elem.of Tryz.underlying114 (by kernel_rfl) (by decide)
theorem elEdit : Elem Tryz.prog 34 114 1 24 := Elem.of Tryz.underlying34 (by kernel_rfl) (by decide)
theorem ch_ones (x0 x1 x2 x3 : Int) : ∀ u ∈ (#[Value.int .i64 x0, .int .i64 x1, .int .i64 x2, .int .i64 x3] : Array Value).toList, u.oneCell' = true := by
  intro u hu
  simp only [List.mem_cons, List.not_mem_nil, or_false] at hu
  rcases hu with rfl | rfl | rfl | rfl <;> rfl
def HistIn (w : World) (base : Nat) (ne : Option Nat) (v : Value) (h : List PChange) : Prop :=
  ∃ a cp, v = .slice a h.length cp ∧ h.length ≤ cp ∧ cp ≤ 9223372036854775807 ∧ CellsIn w a (h.flatMap chRow) ∧ ∀ b, a = some b → base ≤ b.block ∧ b.block < w.heap.size ∧ some b.block ≠ ne
def HistsIn (w : World) (base : Nat) (ne : Option Nat) (vs : List Value) (hs : List (List PChange)) : Prop :=
  vs.length = hs.length ∧ ∀ i (h1 : i < vs.length) (h2 : i < hs.length), HistIn w base ne vs[i] hs[i]
theorem HistIn.grewX {w w' : World} {ks : List Nat} {base : Nat} {ne ne' : Option Nat} {v : Value} {h : List PChange} (hh : HistIn w base ne v h) (hg : GrewX ks w w') (hk : ∀ k ∈ ks, k < base ∨ some k = ne) (hne : ∀ b, base ≤ b → b < w.heap.size → some b ≠ ne → some b ≠ ne') : HistIn w' base ne' v h := by
  obtain ⟨a, cp, rfl, h1, h2, h3, h4⟩ := hh
  refine ⟨a, cp, rfl, h1, h2, hg.cells h3 (fun q hq hm => ?_), fun b hb => ?_⟩
  · obtain ⟨h5, h6, h7⟩ := h4 q hq
    rcases hk _ hm with h | h
    · omega
    · exact h7 h
  · obtain ⟨h5, h6, h7⟩ := h4 b hb
    exact ⟨h5, Nat.lt_of_lt_of_le h6 hg.size, hne _ h5 h6 h7⟩
theorem HistsIn.grewX {w w' : World} {ks : List Nat} {base : Nat} {ne ne' : Option Nat} {vs : List Value} {hs : List (List PChange)} (hh : HistsIn w base ne vs hs) (hg : GrewX ks w w') (hk : ∀ k ∈ ks, k < base ∨ some k = ne) (hne : ∀ b, base ≤ b → b < w.heap.size → some b ≠ ne → some b ≠ ne') : HistsIn w' base ne' vs hs :=
  ⟨hh.1, fun i h1 h2 => (hh.2 i h1 h2).grewX hg hk hne⟩
theorem HistsIn.push {w : World} {base : Nat} {ne : Option Nat} {vs : List Value} {hs : List (List PChange)} (hh : HistsIn w base ne vs hs) {v : Value} {h : List PChange} (hv : HistIn w base ne v h) : HistsIn w base ne (vs ++ [v]) (hs ++ [h]) := by
  obtain ⟨h1, h2⟩ := hh
  refine ⟨by simp [h1], fun i h3 h4 => ?_⟩
  by_cases hi : i < vs.length
  · rw [List.getElem_append_left hi, List.getElem_append_left (by omega)]; exact h2 i hi (by omega)
  · simp at h3
    obtain rfl : i = vs.length := by omega
    simp only [List.getElem_concat_length, h1]
    exact hv
theorem HistsIn.low {w : World} {base base' : Nat} {ne : Option Nat} {vs : List Value} {hs : List (List PChange)} (hh : HistsIn w base ne vs hs) (h : base' ≤ base) : HistsIn w base' ne vs hs :=
  ⟨hh.1, fun i h1 h2 => by obtain ⟨a, cp, e, x1, x2, x3, x4⟩ := hh.2 i h1 h2; exact ⟨a, cp, e, x1, x2, x3, fun b hb => by obtain ⟨y1, y2, y3⟩ := x4 b hb; exact ⟨by omega, y2, y3⟩⟩⟩
def isEdits (base : Nat) (xs : List (List PChange)) (e : Ending) (w' : World) : Prop := ∃ ar cp vs, e = .returned (.slice ar xs.length cp) ∧ w'.ownsRow base 114 1 (.slice ar xs.length cp) xs.length vs ∧ HistsIn w' base (Value.slice ar xs.length cp).ownBlock vs xs
section
variable {S : Nat → Addr} {w0 w w' : World} {R : Nat} {a : Option Addr} {cap : Nat} {l : List UInt8} {p q : Nat}
set_option maxRecDepth 100000 in
set_option maxHeartbeats 2000000 in
theorem eye_edits (h : RA S w0 R a cap l w p) :
    Calls Tryz.prog 57 #[.agg #[pt R]] w fun e w' => GrewX [R] w w' ∧ IPost S w0 R a cap l (isEdits w.heap.size) (pEdits l p) e w' := by
  have lR := h.lt
  have lR0 := h.hR
  have hab := h.ab
  have hlen := h.r.len
  have h2 := h.grew ((Grew.refl w).alloc (.cells #[pt R] 84))
  have g2 : GrewX [R] w (w.alloc (.cells #[pt R] 84)) := GrewX.of_grew ((Grew.refl w).alloc _)
  have a2 : (w.alloc (.cells #[pt R] 84)).heap[w.heap.size]? = some (.cells #[pt R] 84 (0, 0)) := heap_alloc_at _ _ _ rfl
  have hBR : w.heap.size ≠ R := by omega
  have Hab := Lib.hid hab
  clear h hab
  go_enter Tryz.func57, Tryz.ntmps57
  go_wp2_with fail
  generalize hBB : w.heap.size = B at *
  have HBB := Lib.hid hBB
  clear hBB
  generalize (w.alloc (.cells #[pt R] 84)) = W at *
  have k0 : EL S w0 R a cap l B w W p := ⟨h2, g2, a2, hBR⟩
  have HL : Hid (pEdits l p = _) := Lib.hid (congrFun (pEdits_eq l) p)
  refine k0.count 1 (by omega) (by omega) (fun r v w' h hv hg => ?_) (fun n p1 w1 h1 k1 => ?_)
  · exact ⟨rfl, hg, by rw [HL.out, bind_no h]; exact ⟨v, rfl, hv⟩⟩
  have HL2 := Lib.hid (HL.out.trans (bind_ok h1))
  have hn := pCount_le h1
  have HX := Lib.hid k1
  clear h2 g2 a2 h1 HL k0 k1
  go_wp2_with fail
  go_loopw [2, 7] (fun s2 i wr => ∃ (k : Nat) (xs : List (List PChange)) (q : Nat) (ar : Option Addr) (cp : Nat) (vs : List Value), k ≤ n ∧ i = .int .i64 k ∧ xs.length = k ∧ s2 = .slice ar k cp ∧ pLoop (editsB l) (n - k) k xs q = pLoop (editsB l) n 0 [] p1 ∧ EL S w0 R a cap l B w wr q ∧ wr.ownsRow (B + 1) 114 1 (.slice ar k cp) k vs ∧ HistsIn wr (B + 1) (Value.slice ar k cp).ownBlock vs xs) (fun _ i _ => n - (intOf i).toNat)
  case atStart => exact ⟨0, [], p1, none, 0, [], by omega, rfl, rfl, rfl, rfl, HX.out, ⟨rfl, .inl ⟨rfl, rfl⟩⟩, rfl, fun i h => absurd h (Nat.not_lt_zero _)⟩
  case round =>
    obtain ⟨W1, hW1⟩ : ∃ W1, W1 = wr := ⟨_, rfl⟩
    subst hW1
    obtain ⟨k, xs, q, ar, cp, vs, hk, rfl, hxl, rfl, hl, ke, ho, hh⟩ := hrel
    have lB := ke.lB
    by_cases hlt : k < n
    · have c0 := ke.eye
      have HF : Hid (∀ r v w', pEdit l q = .error r → WhyAt S w' r v → GrewX [R] W1 w' → GrewX [R] w w' ∧ IPost S w0 R a cap l (isEdits w.heap.size) (pEdits l p) (.panicked [{ v := istop (placeOf r) v, recovered := false }]) w') := Lib.hid fun r v w' h hv hg2 => ⟨ke.g.trans hg2, by rw [HL2.out, ← hl, show n - k = (n - k - 1) + 1 by omega, pLoop_no (show editsB l k xs q = _ from bind_no h)]; exact ⟨v, rfl, hv⟩⟩
      have HS : Hid (∀ x q', pEdit l q = .ok (x, q') → pLoop (editsB l) (n - (k + 1)) (k + 1) (xs ++ [x]) q' = pLoop (editsB l) n 0 [] p1) := Lib.hid fun x q' h => by rw [← hl, show n - k = (n - (k + 1)) + 1 by omega]; exact (pLoop_ok (show editsB l k xs q = _ from bind_ok h)).symm
      have k0 : EL S w0 R a cap l B W1 W1 q := ⟨ke.r, GrewX.refl _ _, ke.e, ke.bR⟩
      have HY := Lib.hid (And.intro ke (And.intro ho hh))
      have hRA := ke.r.lt
      have hRB : R < B + 1 := by have := HBB.out; omega
      have HE : Hid (pEdit l q = _) := Lib.hid (congrFun (pEdit_eq l) q)
      have HK0 := Lib.hid k0
      clear ke ho hh hl k0
      go_wp2_with fail
      refine HK0.out.count 4 (by omega) (by omega) (fun r v w' h hv hg => ?_) (fun n2 q1 V1 h1 k1 => ?_)
      · exact ⟨rfl, HF.out r v w' (HE.out.trans (bind_no h)) hv hg⟩
      have HE2 := Lib.hid (HE.out.trans (bind_ok h1))
      have hn2 := pCount_le h1
      have HX2 := Lib.hid k1
      clear h1 HE k1 c0 HK0
      go_wp2_with fail
      generalize hDD : W1.heap.size = D at *
      have HDD := Lib.hid hDD
      clear hDD
      go_loopw [3, 11] (fun s3 i V => ∃ (k2 : Nat) (ys : List PChange) (q2 : Nat) (ar2 : Option Addr) (cp2 : Nat), k2 ≤ n2 ∧ i = .int .i64 k2 ∧ ys.length = k2 ∧ s3 = .slice ar2 k2 cp2 ∧ pLoop (editB l) (n2 - k2) k2 ys q2 = pLoop (editB l) n2 0 [] q1 ∧ EL S w0 R a cap l B W1 V q2 ∧ V.ownsRow D 116 4 (.slice ar2 k2 cp2) k2 (ys.flatMap chRow)) (fun _ i _ => n2 - (intOf i).toNat)
      case atStart => exact ⟨0, [], q1, none, 0, by omega, rfl, rfl, rfl, rfl, HX2.out, ⟨rfl, .inl ⟨rfl, rfl⟩⟩⟩
      case round =>
        obtain ⟨k2, ys, q2, ar2, cp2, hk2, rfl, hyl, rfl, hl, ke, ho⟩ := hrel
        by_cases hlt2 : k2 < n2
        · have c0 := ke.eye
          have HF2 : Hid (∀ r v w', pChange l q2 = .error r → WhyAt S w' r v → GrewX [R] wr w' → GrewX [R] w w' ∧ IPost S w0 R a cap l (isEdits w.heap.size) (pEdits l p) (.panicked [{ v := istop (placeOf r) v, recovered := false }]) w') := Lib.hid fun r v w' h hv hg2 => HF.out r v w' (by rw [HE2.out, ← hl, show n2 - k2 = (n2 - k2 - 1) + 1 by omega, pLoop_no (show editB l k2 ys q2 = _ from bind_no h)]) hv (ke.g.trans hg2)
          have HS2 : Hid (∀ x q', pChange l q2 = .ok (x, q') → pLoop (editB l) (n2 - (k2 + 1)) (k2 + 1) (ys ++ [x]) q' = pLoop (editB l) n2 0 [] q1) := Lib.hid fun x q' h => by rw [← hl, show n2 - k2 = (n2 - (k2 + 1)) + 1 by omega]; exact (pLoop_ok (show editB l k2 ys q2 = _ from bind_ok h)).symm
          have HO := Lib.hid ho
          have HKE := Lib.hid (show EL S w0 R a cap l B wr wr q2 from ⟨ke.r, GrewX.refl _ _, ke.e, ke.bR⟩)
          have HKG := Lib.hid ke.g
          clear ho ke hl
          go_wp2_with fail
          refine HKE.out.byte 1 3 (fun r v w' h hv hg => ?_) (fun x0 q3 V3 h3 k3 => ?_)
          · exact ⟨rfl, HF2.out r v w' (bind_no h) hv hg⟩
          have L3 := Lib.hid (show pChange l q2 = _ from bind_ok h3)
          have c3 := k3.eye
          have HK3 := Lib.hid k3
          clear h3 k3 c0
          go_wp2_with fail
          refine HK3.out.id (fun r v w' h hv hg => ?_) (fun i q4 V4 h4 k4 => ?_)
          · exact ⟨rfl, HF2.out r v w' (L3.out.trans (bind_no h)) hv hg⟩
          have L4 := Lib.hid (HS2.out _ _ (L3.out.trans (bind_ok h4)))
          obtain ⟨i0, i1, i2⟩ := i
          simp only [idV]
          have HK4 := Lib.hid k4
          clear h4 k4 c3 L3
          go_wp2_with (at_builtin; go_loud (refine wpList_app (by rfl) (.tmp 15) (.tmp 20) 114 (by rfl) elChange D _ k2 (ys.flatMap chRow) (by rfl) ((HO.out.grewX (ks := [R]) HK4.out.g (by have := HDD.out; simp; omega)).grew (by exact by repeat (first | with_reducible exact HG.out | with_reducible exact Grew.refl _ | with_reducible assumption | with_reducible apply Grew.plus | with_reducible apply Grew.drewN | with_reducible apply Grew.drew | with_reducible apply Grew.alloc | with_reducible refine Grew.setCell ?_ (by simp [go_sem]; try omega) _))) _ 1 1 #[.int .i64 x0.toNat, .int .i64 i0, .int .i64 i1, .int .i64 i2] 116 (by rfl) (heap_alloc_at _ _ _ rfl) (by rfl) (ch_ones _ _ _ _) (by omega) (by omega) (by unfold maxLen; omega) w0 (HK4.out.r.g.trans (by exact by repeat (first | with_reducible exact HG.out | with_reducible exact Grew.refl _ | with_reducible assumption | with_reducible apply Grew.plus | with_reducible apply Grew.drewN | with_reducible apply Grew.drew | with_reducible apply Grew.alloc | with_reducible refine Grew.setCell ?_ (by simp [go_sem]; try omega) _))) (by have := HDD.out; have := HBB.out; omega) (by have := HKG.out.size; have := HK4.out.g.size; have := HDD.out; rw [alloc_size1]; omega) ?_); intro g c2 w2 hg2 hown2 hkeep2 hsz2 hat2; have HO2 := Lib.hid hown2; have HG2 := Lib.hid (And.intro hg2 (And.intro hkeep2 hsz2)); clear hown2 hg2 hkeep2 hat2 hsz2)
          obtain ⟨hr2, hg2, he2⟩ := app_close (HK4.out.r.grew ((Grew.refl _).alloc _)) ((HKG.out.trans HK4.out.g).alloc _) (Grew.heap ((Grew.refl _).alloc _) HK4.out.e) ((HO.out.grewX (ks := [R]) HK4.out.g (by have := HDD.out; simp; omega)).grew ((Grew.refl _).alloc _)) (by have := HDD.out; omega) (by have := HDD.out; omega) (by have := HDD.out; omega) (fun x hx => by have := Hab.out x hx; omega) HG2.out
          exact ⟨⟨k2 + 1, ys ++ [⟨x0.toNat, ⟨i0, i1, i2⟩⟩], q4, _, _, by omega, rfl, by simp [hyl], rfl, L4.out, ⟨hr2, hg2, he2, hBR⟩, by rw [List.flatMap_append, List.flatMap_singleton]; exact HO2.out⟩, by show n2 - ((k2 : Int) + 1).toNat < n2 - (k2 : Int).toNat; omega⟩
        · have hkn2 : k2 = n2 := by omega
          subst hkn2
          have HO := Lib.hid ho
          have HKE := Lib.hid ke
          rw [Nat.sub_self, pLoop_zero] at hl
          have L5 := Lib.hid (HS.out _ _ (HE2.out.trans hl.symm))
          obtain ⟨ar3, cp3, he3, hcp3, hcp4, hin3, hb3, hn3⟩ := ho.rd
          cases he3
          have HIN := Lib.hid (And.intro hin3 (And.intro hb3 (And.intro hcp3 hcp4)))
          clear ho ke hl hin3 hb3 hcp3 hcp4 hn3 HS HE2 HF
          go_wp2_with (at_builtin; go_loud (refine wpList_app (by rfl) (.tmp 23) (.tmp 25) 34 (by rfl) elEdit (B + 1) _ k vs (by rfl) ((HY.out.2.1.grewX HKE.out.g (by simpa using hRB)).grew (by exact by repeat (first | with_reducible exact HG.out | with_reducible exact Grew.refl _ | with_reducible assumption | with_reducible apply Grew.plus | with_reducible apply Grew.drewN | with_reducible apply Grew.drew | with_reducible apply Grew.alloc | with_reducible refine Grew.setCell ?_ (by simp [go_sem]; try omega) _))) _ 1 1 #[.slice ar2 k2 cp2] 114 (by rfl) (heap_alloc_at _ _ _ rfl) (by rfl) (by simp [Value.oneCell']) (by omega) (by omega) (by unfold maxLen; omega) w0 (HKE.out.r.g.trans (by exact by repeat (first | with_reducible exact HG.out | with_reducible exact Grew.refl _ | with_reducible assumption | with_reducible apply Grew.plus | with_reducible apply Grew.drewN | with_reducible apply Grew.drew | with_reducible apply Grew.alloc | with_reducible refine Grew.setCell ?_ (by simp [go_sem]; try omega) _))) (by have := HBB.out; omega) (by have := HKE.out.g.size; have := HDD.out; rw [alloc_size1]; omega) ?_); intro g c2 w2 hg2 hown2 hkeep2 hsz2 hat2; have HO2 := Lib.hid hown2; have HG2 := Lib.hid (And.intro hg2 (And.intro hkeep2 (And.intro hsz2 hat2))); clear hown2 hg2 hkeep2 hat2 hsz2)
          have hrow := (HY.out.2.1.grewX HKE.out.g (by simpa using hRB)).grew ((Grew.refl wr).alloc (.cells #[.slice ar2 k2 cp2] 114))
          have hra := HKE.out.r.grew ((Grew.refl wr).alloc (.cells #[.slice ar2 k2 cp2] 114))
          obtain ⟨hx1, hx2, hx3, hx4⟩ := HG2.out
          obtain ⟨hr2, hg2, he2⟩ := app_close hra ((HY.out.1.g.trans HKE.out.g).alloc _) (Grew.heap ((Grew.refl _).alloc _) HKE.out.e) hrow (by have := HBB.out; omega) (by omega) hRB (fun x hx => by have := Hab.out x hx; omega) ⟨hx1, hx2, hx3⟩
          have hgx := app_gx hra hx1 hx2 hx3
          have hlo : ∀ b, (Value.slice ar k cp).ownBlock = some b → b < D := fun b hb => by have := (HY.out.2.1.lt b hb).2; have := HDD.out; omega
          have hnew : ∀ b, b < wr.heap.size → some b ≠ (Value.slice ar k cp).ownBlock → some b ≠ (Value.slice (some ⟨g, 0, none⟩) (k + 1) c2).ownBlock := fun b hb hn e => by
            simp only [Value.ownBlock, Option.some.injEq] at e
            rcases hx4 with h | h
            · exact hn (by rw [h, e])
            · rw [alloc_size1] at h; omega
          have hsz := HKE.out.g.size
          refine ⟨⟨k + 1, xs ++ [ys], q2, _, _, _, by omega, rfl, by simp [hxl], rfl, L5.out, ⟨hr2, hg2, he2, hBR⟩, HO2.out, HistsIn.push ?_ ?_⟩, by show n - ((k : Int) + 1).toNat < n - (k : Int).toNat; omega⟩
          · refine HY.out.2.2.grewX (ks := R :: (Value.slice ar k cp).ownBlock.toList) (((HKE.out.g.alloc _).mono (by simp)).trans (hgx.mono (fun k hk => List.mem_cons_of_mem _ hk))) (fun x hx => ?_) (fun b _ hb hn => hnew b (by omega) hn)
            rcases List.mem_cons.1 hx with rfl | hm
            · exact .inl hRB
            · exact .inr (Option.mem_toList.1 hm).symm
          · refine ⟨ar2, cp2, by rw [hyl], by rw [hyl]; exact HIN.out.2.2.1, HIN.out.2.2.2, ?_, fun b hb => ?_⟩
            · refine hgx.cells (HIN.out.1.grew ((Grew.refl _).alloc _)) (fun x hx hm => ?_)
              have h1 := (HIN.out.2.1 x hx).1
              have h2 := hlo x.block (by simpa using hm)
              omega
            · obtain ⟨h1, h2⟩ := HIN.out.2.1 b hb
              have h3 := hgx.size
              rw [alloc_size1] at h3
              exact ⟨by omega, by omega, hnew _ h2 (fun e => by have := hlo _ e.symm; omega)⟩
    · have hkn : k = n := by omega
      subst hkn
      have HY := Lib.hid (And.intro ke (And.intro ho hh))
      rw [Nat.sub_self, pLoop_zero] at hl
      clear ke ho hh
      go_wp2_with fail
      obtain ⟨ke, ho, hh⟩ := HY.out
      refine bodyPost_ret (v := .slice ar k cp) (by simp [results, Tryz.results57, go_sem]) rfl ⟨ke.g, ?_⟩
      rw [HL2.out, ← hl]
      refine ⟨⟨ar, cp, vs, by rw [hxl], by rw [hxl]; exact ho.low (by have := HBB.out; omega), by rw [hxl]; exact hh.low (by have := HBB.out; omega)⟩, ke.r⟩
end
end Go.Proofs.YtnhmekdnfinmiaaGreatDoor
/- Walks: image's eye: rounds. -/
namespace Go.Par
def pad8 (t : List Nat) : List Nat := t ++ List.replicate (8 - t.length) 0
theorem pad8_len {t : List Nat} (h : t.length ≤ 8) : (pad8 t).length = 8 := by simp [pad8]; omega
def r18 (x : PRound) : List Nat := x.num :: (pad8 x.cut ++ (pad8 x.votes ++ [x.dec]))
def rz (xs : List PRound) : List Nat := xs.flatMap r18 ++ List.replicate ((8 - xs.length) * 18) 0
def arr (zs : List Nat) : Array Value := (zs.map fun n : Nat => Value.int .i64 n).toArray
theorem arr_size (zs : List Nat) : (arr zs).size = zs.length := by simp [arr]
theorem arr_get (zs : List Nat) (i : Nat) (h : i < zs.length) : (arr zs)[i]? = some (.int .i64 (zs[i]'h : Nat)) := by simp [arr, h]
theorem arr_set (zs : List Nat) (i v : Nat) : (arr zs).setIfInBounds i (.int .i64 v) = arr (zs.set i v) := by simp [arr, List.map_set]
def putL (zs : List Nat) (o : Nat) : List Nat → List Nat
  | [] => zs
  | x :: xs => putL (zs.set o x) (o + 1) xs
theorem putL_mid : ∀ (xs pre zs : List Nat) (o : Nat), putL (pre ++ zs) (pre.length + o) xs = pre ++ putL zs o xs
  | [], pre, zs, o => rfl
  | x :: xs, pre, zs, o => by
    show putL ((pre ++ zs).set (pre.length + o) x) (pre.length + o + 1) xs = pre ++ putL (zs.set o x) (o + 1) xs
    rw [List.set_append_right _ _ (by omega), show pre.length + o - pre.length = o by omega, show pre.length + o + 1 = pre.length + (o + 1) by omega, putL_mid xs]
theorem putL_8 (t C : List Nat) (ht : t.length ≤ 8) : putL (0 :: 0 :: 0 :: 0 :: 0 :: 0 :: 0 :: 0 :: C) 0 t = pad8 t ++ C := by
  match t, ht with
  | [], _ => simp [putL, pad8]
  | [_], _ => simp [putL, pad8]
  | [_, _], _ => simp [putL, pad8]
  | [_, _, _], _ => simp [putL, pad8]
  | [_, _, _, _], _ => simp [putL, pad8]
  | [_, _, _, _, _], _ => simp [putL, pad8]
  | [_, _, _, _, _, _], _ => simp [putL, pad8]
  | [_, _, _, _, _, _, _], _ => simp [putL, pad8]
  | [_, _, _, _, _, _, _, _], _ => simp [putL, pad8]
  | _ :: _ :: _ :: _ :: _ :: _ :: _ :: _ :: _ :: _, h => simp at h
theorem putL_at (A t C : List Nat) (o : Nat) (ho : o = A.length) (ht : t.length ≤ 8) : putL (A ++ (0 :: 0 :: 0 :: 0 :: 0 :: 0 :: 0 :: 0 :: C)) o t = A ++ (pad8 t ++ C) := by
  have := putL_mid t A (0 :: 0 :: 0 :: 0 :: 0 :: 0 :: 0 :: 0 :: C) 0
  rw [Nat.add_zero] at this
  rw [ho, this, putL_8 t C ht]
theorem set_at (A C : List Nat) (x d o : Nat) (ho : o = A.length) : (A ++ x :: C).set o d = A ++ d :: C := by
  subst ho
  rw [List.set_append_right _ _ (Nat.le_refl _), Nat.sub_self, List.set_cons_zero]
def pre18 (xs : List PRound) : List Nat := xs.flatMap r18
def post18 (k : Nat) : List Nat := List.replicate ((7 - k) * 18) 0
def fine (x : PRound) : Prop := x.cut.length ≤ 8 ∧ x.votes.length ≤ 8
theorem r18_len {x : PRound} (h : fine x) : (r18 x).length = 18 := by simp [r18, pad8_len h.1, pad8_len h.2]
theorem pre18_len : ∀ (xs : List PRound), (∀ x ∈ xs, fine x) → (pre18 xs).length = xs.length * 18
  | [], _ => rfl
  | x :: xs, h => by
    show (r18 x ++ pre18 xs).length = _
    rw [List.length_append, r18_len (h x (by simp)), pre18_len xs (fun y hy => h y (by simp [hy])), List.length_cons]
    omega
theorem rz_len (xs : List PRound) (h : ∀ x ∈ xs, fine x) (h8 : xs.length ≤ 8) : (rz xs).length = 144 := by
  show (pre18 xs ++ _).length = _
  rw [List.length_append, pre18_len xs h, List.length_replicate]
  omega
theorem rz_open (xs : List PRound) (h8 : xs.length < 8) : rz xs = pre18 xs ++ (0 :: 0 :: 0 :: 0 :: 0 :: 0 :: 0 :: 0 :: 0 :: 0 :: 0 :: 0 :: 0 :: 0 :: 0 :: 0 :: 0 :: 0 :: post18 xs.length) := by
  show pre18 xs ++ _ = _
  rw [show (8 - xs.length) * 18 = (7 - xs.length) * 18 + 18 by omega]
  rfl
theorem rz_push (xs : List PRound) (x : PRound) : rz (xs ++ [x]) = pre18 xs ++ (r18 x ++ post18 xs.length) := by
  unfold rz post18 pre18
  rw [List.flatMap_append, List.flatMap_singleton, List.append_assoc, List.length_append, List.length_singleton, show 8 - (xs.length + 1) = 7 - xs.length by omega]
theorem rz_num (xs : List PRound) (h : ∀ x ∈ xs, fine x) (h8 : xs.length < 8) (v : Nat) : (rz xs).set (xs.length * 18) v = pre18 xs ++ (v :: 0 :: 0 :: 0 :: 0 :: 0 :: 0 :: 0 :: 0 :: 0 :: 0 :: 0 :: 0 :: 0 :: 0 :: 0 :: 0 :: 0 :: post18 xs.length) := by
  rw [rz_open xs h8, set_at _ _ _ _ _ (pre18_len xs h).symm]
theorem rz_cut (xs : List PRound) (h : ∀ x ∈ xs, fine x) (v : Nat) (c : List Nat) (hc : c.length ≤ 8) : putL (pre18 xs ++ (v :: 0 :: 0 :: 0 :: 0 :: 0 :: 0 :: 0 :: 0 :: 0 :: 0 :: 0 :: 0 :: 0 :: 0 :: 0 :: 0 :: 0 :: post18 xs.length)) (xs.length * 18 + 1) c
    = pre18 xs ++ (v :: (pad8 c ++ (0 :: 0 :: 0 :: 0 :: 0 :: 0 :: 0 :: 0 :: 0 :: post18 xs.length))) := by
  have := putL_at (pre18 xs ++ [v]) c (0 :: 0 :: 0 :: 0 :: 0 :: 0 :: 0 :: 0 :: 0 :: post18 xs.length) (xs.length * 18 + 1) (by simp [pre18_len xs h]) hc
  simpa using this
theorem rz_votes (xs : List PRound) (h : ∀ x ∈ xs, fine x) (v : Nat) (c t : List Nat) (hc : c.length ≤ 8) (ht : t.length ≤ 8) : putL (pre18 xs ++ (v :: (pad8 c ++ (0 :: 0 :: 0 :: 0 :: 0 :: 0 :: 0 :: 0 :: 0 :: post18 xs.length)))) (xs.length * 18 + 9) t
    = pre18 xs ++ (v :: (pad8 c ++ (pad8 t ++ (0 :: post18 xs.length)))) := by
  have := putL_at (pre18 xs ++ (v :: pad8 c)) t (0 :: post18 xs.length) (xs.length * 18 + 9) (by simp [pre18_len xs h, pad8_len hc]) ht
  simpa using this
theorem rz_dec (xs : List PRound) (h : ∀ x ∈ xs, fine x) (v : Nat) (c t : List Nat) (hc : c.length ≤ 8) (ht : t.length ≤ 8) (d : Nat) : (pre18 xs ++ (v :: (pad8 c ++ (pad8 t ++ (0 :: post18 xs.length))))).set (xs.length * 18 + 17) d
    = rz (xs ++ [⟨v, c, t, d⟩]) := by
  have := set_at (pre18 xs ++ (v :: (pad8 c ++ pad8 t))) (post18 xs.length) 0 d (xs.length * 18 + 17) (by simp [pre18_len xs h, pad8_len hc, pad8_len ht])
  rw [rz_push]
  simpa [r18] using this
theorem rz_none (xs : List PRound) : rz (xs ++ [zRound]) = pre18 xs ++ (0 :: 0 :: 0 :: 0 :: 0 :: 0 :: 0 :: 0 :: 0 :: 0 :: 0 :: 0 :: 0 :: 0 :: 0 :: 0 :: 0 :: 0 :: post18 xs.length) := by
  rw [rz_push]; rfl
theorem len_1 (xs : List PRound) (h : ∀ x ∈ xs, fine x) (h8 : xs.length < 8) (v : Nat) : (pre18 xs ++ (v :: 0 :: 0 :: 0 :: 0 :: 0 :: 0 :: 0 :: 0 :: 0 :: 0 :: 0 :: 0 :: 0 :: 0 :: 0 :: 0 :: 0 :: post18 xs.length)).length = 144 := by
  simp [pre18_len xs h, post18]; omega
theorem len_2 (xs : List PRound) (h : ∀ x ∈ xs, fine x) (h8 : xs.length < 8) (v : Nat) (c : List Nat) (hc : c.length ≤ 8) : (pre18 xs ++ (v :: (pad8 c ++ (0 :: 0 :: 0 :: 0 :: 0 :: 0 :: 0 :: 0 :: 0 :: post18 xs.length)))).length = 144 := by
  simp [pre18_len xs h, pad8_len hc, post18]; omega
theorem len_3 (xs : List PRound) (h : ∀ x ∈ xs, fine x) (h8 : xs.length < 8) (v : Nat) (c t : List Nat) (hc : c.length ≤ 8) (ht : t.length ≤ 8) : (pre18 xs ++ (v :: (pad8 c ++ (pad8 t ++ (0 :: post18 xs.length))))).length = 144 := by
  simp [pre18_len xs h, pad8_len hc, pad8_len ht, post18]; omega
theorem get_num (xs : List PRound) (h : ∀ x ∈ xs, fine x) (v : Nat) (C : List Nat) : (arr (pre18 xs ++ v :: C))[xs.length * 18]? = some (.int .i64 v) := by
  rw [arr_get _ _ (by simp [pre18_len xs h])]
  congr 3
  rw [List.getElem_append_right (by rw [pre18_len xs h]; omega)]
  simp [pre18_len xs h]
def roundsB (l : List UInt8) (n i : Nat) (xs : List PRound) : PM (List PRound) := (pRound l i n).bind fun r => PM.pure (xs ++ [r])
theorem pRounds_eq (l : List UInt8) : pRounds l = (pNum l 0 8).bind fun n => pLoop (roundsB l n) n 0 [] := rfl
end Go.Par
namespace Go.Proofs.YtnhmekdnfinmiaaGreatDoor
open Go.RowKit Go.Par
set_option linter.unusedSimpArgs false
set_option linter.unusedVariables false
theorem setCells_id' {W : World} {B : Nat} : ∀ (vs : List Value) (o : Nat), (∀ (j : Nat) (v : Value), vs[j]? = some v → W.cell? ⟨B, o + j, none⟩ = some v) → W.setCells B o vs = W
  | [], o, h => rfl
  | v :: vs, o, h => by
    show (W.setCell ⟨B, o, none⟩ v).setCells B (o + 1) vs = W
    have h0 : W.cell? ⟨B, o, none⟩ = some v := h 0 v rfl
    rw [World.setCell_self h0]
    exact setCells_id' vs (o + 1) (fun j u hj => by rw [Nat.add_assoc, Nat.add_comm 1 j]; exact h (j + 1) u hj)
theorem range_all {w : World} {b : Nat} {C : Array Value} {t : TypeId} {fr : Nat × Nat} (hb : w.heap[b]? = some (.cells C t fr)) : w.rangeAt b 0 C.toList := fun j v hv => by
  rw [Nat.zero_add, cell_of_row w b j C t fr hb]; simpa using hv
theorem there_all {w : World} {b : Nat} {C : Array Value} {t : TypeId} (hb : w.heap[b]? = some (.cells C t (0, 0))) : w.there b 0 C.size := fun j hj => by
  rw [Nat.zero_add]
  obtain ⟨h1, h2⟩ := World.own_cell hb j _ (Array.getElem?_eq_getElem hj)
  exact ⟨by rw [h1]; rfl, h2⟩
theorem setCells_self {w : World} {b : Nat} {C : Array Value} {t : TypeId} {fr : Nat × Nat} (hb : w.heap[b]? = some (.cells C t fr)) : w.setCells b 0 C.toList = w := setCells_id' _ _ (range_all hb)
theorem arr_ones (zs : List Nat) : (arr zs).all (·.oneCell') = true := by
  simp [arr, Value.oneCell']
theorem info_rounds : (Tryz.prog.info? 33).map (·.size) = some 144 := by kernel_rfl
theorem putRow_arr : ∀ (xs : List Nat) (zs : List Nat) (o : Nat), putRow (arr zs) o xs = arr (putL zs o xs)
  | [], zs, o => rfl
  | x :: xs, zs, o => by
    show putRow ((arr zs).setIfInBounds o _) (o + 1) xs = _
    rw [arr_set, putRow_arr xs]; rfl
def isRounds (xs : List PRound) (e : Ending) (w' : World) : Prop := e = .returned (.agg (arr (rz xs))) ∧ (rz xs).length = 144
theorem zero_rounds : Tryz.zeroCells33 = arr (rz []) := by kernel_rfl
section
variable {S : Nat → Addr} {w0 w w' : World} {R : Nat} {a : Option Addr} {cap : Nat} {l : List UInt8} {p q : Nat}
set_option maxRecDepth 100000 in
set_option maxHeartbeats 2000000 in
theorem eye_rounds (h : RA S w0 R a cap l w p) :
    Calls Tryz.prog 56 #[.agg #[pt R]] w fun e w' => GrewX [R] w w' ∧ IPost S w0 R a cap l isRounds (pRounds l p) e w' := by
  have lR := h.lt
  have lR0 := h.hR
  have hab := h.ab
  have hg0 := h.g.size
  have h2 : ∀ o, RA S w0 R a cap l ((w.alloc (.cells #[pt R] 84)).alloc o) p := fun o => h.grew (((Grew.refl w).alloc (.cells #[pt R] 84)).alloc o)
  have a2 : ∀ o, ((w.alloc (.cells #[pt R] 84)).alloc o).heap[w.heap.size]? = some (.cells #[pt R] 84 (0, 0)) := fun o => Grew.heap ((Grew.refl _).alloc o) (heap_alloc_at _ _ _ rfl)
  have c00 : ∀ o, ((w.alloc (.cells #[pt R] 84)).alloc o).cellsAt ⟨w.heap.size, 0, none⟩ 1 = some [pt R] := fun o => World.cellsAt_block (a2 o) 1 rfl
  have hBR : w.heap.size ≠ R := by omega
  have K0 : EK S w0 R a cap l w.heap.size (w.heap.size + 1) 33 w ((w.alloc (.cells #[pt R] 84)).alloc (.cells (arr (rz [])) 33)) p (arr (rz [])) :=
    ⟨h2 _, GrewX.of_grew (((Grew.refl w).alloc _).alloc _), a2 _, heap_alloc_at _ _ _ (by simp [go_sem]), hBR, by omega, by omega, by omega, by omega, fun x hx => by have := hab x hx; omega, lR⟩
  have HK0 := Lib.hid K0
  have Hab := Lib.hid hab
  clear h hab h2 a2 K0
  go_enter Tryz.func56, Tryz.ntmps56
  go_wp2_with fail
  rw [zero_rounds] at *
  have HL : Hid (pRounds l p = _) := Lib.hid (congrFun (pRounds_eq l) p)
  have k0 := HK0.out
  generalize ((w.alloc (.cells #[pt R] 84)).alloc (.cells (arr (rz [])) 33)) = W0 at *
  generalize hAA : w.heap.size + 1 = A at *
  generalize hBB : w.heap.size = B at *
  have HAA := Lib.hid (And.intro hAA hBB)
  clear hAA hBB c00 HK0
  refine k0.number 0 8 (by decide) (by decide) (fun r v w' h hv hg => ?_) (fun n p1 w1 h1 k1 => ?_)
  · exact ⟨rfl, hg, by rw [HL.out, bind_no h]; exact ⟨v, rfl, hv⟩⟩
  have HL2 := Lib.hid (HL.out.trans (bind_ok h1))
  have hn8 : n ≤ 8 := by have := (pNum_le h1).1; omega
  have HX := Lib.hid k1
  clear h1 HL k0 k1
  go_wp2_with fail
  go_loopw [9] (fun i wr => ∃ (k : Nat) (xs : List PRound) (q : Nat), k ≤ n ∧ i = .int .i64 k ∧ xs.length = k ∧ (∀ x ∈ xs, fine x) ∧ pLoop (roundsB l n) (n - k) k xs q = pLoop (roundsB l n) n 0 [] p1 ∧ EK S w0 R a cap l B A 33 w wr q (arr (rz xs))) (fun i _ => n - (intOf i).toNat)
  case atStart => exact ⟨0, [], p1, by omega, rfl, rfl, by simp, rfl, HX.out⟩
  case round =>
    obtain ⟨W1, hW1⟩ : ∃ W1, W1 = wr := ⟨_, rfl⟩
    subst hW1
    obtain ⟨k, xs, q, hk, rfl, hxl, hfine, hl, ke⟩ := hrel
    by_cases hlt : k < n
    · have c0 := ke.eye
      have HFN := Lib.hid hfine
      have HF : Hid (∀ r v w', pRound l k n q = .error r → WhyAt S w' r v → GrewX [R] w w' → GrewX [R] w w' ∧ IPost S w0 R a cap l isRounds (pRounds l p) (.panicked [{ v := istop (placeOf r) v, recovered := false }]) w') := Lib.hid fun r v w' h hv hg2 => ⟨hg2, by rw [HL2.out, ← hl, show n - k = (n - k - 1) + 1 by omega, pLoop_no (show roundsB l n k xs q = _ from bind_no h)]; exact ⟨v, rfl, hv⟩⟩
      have HS : Hid (∀ x q', pRound l k n q = .ok (x, q') → pLoop (roundsB l n) (n - (k + 1)) (k + 1) (xs ++ [x]) q' = pLoop (roundsB l n) n 0 [] p1) := Lib.hid fun x q' h => by rw [← hl, show n - k = (n - (k + 1)) + 1 by omega]; exact (pLoop_ok (show roundsB l n k xs q = _ from bind_ok h)).symm
      have LA := Lib.hid (fun W2 => eye_last k n (by omega) (by omega) W2)
      have HKE := Lib.hid ke
      have b1 : (0 : Int) ≤ k := by omega
      have b2 : (k : Int) < 8 := by omega
      have b3 : (k : Int).toNat = k := by omega
      have hkn2 : IntKind.i64.wrap ((k : Int) + 1) = ((k + 1 : Nat) : Int) := by rw [IntKind.wrap_i64]; omega
      have b4 : (k : Int) < n := by omega
      have b5 : k < 8 := by omega
      clear ke hl hfine
      go_wp2_with fail
      refine wp_region_held_drew (S := fun w' => w'.cellsAt ⟨B, 0, none⟩ 1 = some [pt R]) (by kernel_rfl) (HKE.out.grew (by repeat (first | with_reducible exact HG.out | with_reducible exact Grew.refl _ | with_reducible assumption | with_reducible apply Grew.plus | with_reducible apply Grew.drewN | with_reducible apply Grew.drew | with_reducible apply Grew.alloc | with_reducible refine Grew.setCell ?_ (by simp [go_sem]; try omega) _))).eye (fun hHeld => ?_)
      refine wpAnyH_take (i := 0) (v := ?_) rfl (by kernel_rfl) (by kernel_rfl) (by kernel_rfl) (by first | exact fun _ _ _ h => h | exact fun _ _ _ h => HQP _ _ _ _ (by rfl) h) (Or.inl ⟨by rfl, ?_⟩) (by assumption) ?_
      rotate_left 1
      · (intro w hSw; (try dsimp only at hSw); go_simp; (try with_reducible rfl))
      (try simp only [List.getElem_toArray, List.getElem_cons_zero, List.getElem_cons_succ])
      (try simp only [Act.put, List.setIfInBounds_toArray, List.set_cons_zero, List.set_cons_succ])
      refine wpAnyH_take (i := 1) (v := ?_) rfl (by kernel_rfl) (by kernel_rfl) (by kernel_rfl) (by first | exact fun _ _ _ h => h | exact fun _ _ _ h => HQP _ _ _ _ (by rfl) h) (Or.inl ⟨by rfl, ?_⟩) (by assumption) ?_
      rotate_left 1
      · (intro w hSw; (try dsimp only at hSw); go_simp; (try with_reducible rfl))
      (try simp only [List.getElem_toArray, List.getElem_cons_zero, List.getElem_cons_succ])
      (try simp only [Act.put, List.setIfInBounds_toArray, List.set_cons_zero, List.set_cons_succ])
      refine wpAnyH_take (i := 2) (v := ?_) rfl (by kernel_rfl) (by kernel_rfl) (by kernel_rfl) (by first | exact fun _ _ _ h => h | exact fun _ _ _ h => HQP _ _ _ _ (by rfl) h) (Or.inl ⟨by rfl, ?_⟩) (by assumption) ?_
      rotate_left 1
      · (intro w hSw; (try dsimp only at hSw); go_simp; (try with_reducible rfl))
      (try simp only [List.getElem_toArray, List.getElem_cons_zero, List.getElem_cons_succ])
      (try simp only [Act.put, List.setIfInBounds_toArray, List.set_cons_zero, List.set_cons_succ])
      refine wpAnyH_take (i := 3) (v := ?_) rfl (by kernel_rfl) (by kernel_rfl) (by kernel_rfl) (by first | exact fun _ _ _ h => h | exact fun _ _ _ h => HQP _ _ _ _ (by rfl) h) (Or.inl ⟨by rfl, ?_⟩) (by assumption) ?_
      rotate_left 1
      · (intro w hSw; (try dsimp only at hSw); go_simp; (try with_reducible rfl))
      (try simp only [List.getElem_toArray, List.getElem_cons_zero, List.getElem_cons_succ])
      (try simp only [Act.put, List.setIfInBounds_toArray, List.set_cons_zero, List.set_cons_succ])
      refine wpAnyH_ready (rs := [4]) (by kernel_rfl) (by simp) ?_
      refine AllReadyH.cons rfl (fun K hK => ?_) AllReadyH.nil
      go_simp
      go_at_call 89
      refine (LA.out _).mono ?_
      rintro e w' ⟨rfl, rfl⟩
      refine hK.out _ _ hHeld (fun _ => ?_)
      clear hK K
      (try simp only [Act.put, List.setIfInBounds_toArray, List.set_cons_zero, List.set_cons_succ])
      refine wpAnyH_ready (rs := [5]) (by kernel_rfl) (by simp) ?_
      refine AllReadyH.cons rfl (fun K hK => ?_) AllReadyH.nil
      go_simp
      go_at_call 52
      refine (HKE.out.grew (by exact by repeat (first | with_reducible exact HG.out | with_reducible exact Grew.refl _ | with_reducible assumption | with_reducible apply Grew.plus | with_reducible apply Grew.drewN | with_reducible apply Grew.drew | with_reducible apply Grew.alloc | with_reducible refine Grew.setCell ?_ (by simp [go_sem]; try omega) _))).number _ 9223372036854775807 (by decide) (by decide) (fun r v w' h hv hg => ?_) (fun x0 q0 V0 h0 kk0 => ?_)
      · exact ⟨rfl, HF.out r v w' (bind_no h) hv hg⟩
      have L1 := Lib.hid (show pRound l k n q = _ from bind_ok h0)
      refine hK.out _ _ kk0.eye (fun hHeld2 => ?_)
      clear hK K
      (try simp only [Act.put, List.setIfInBounds_toArray, List.set_cons_zero, List.set_cons_succ])
      have hf := HFN.out
      have hr1 : (arr (rz xs)).setIfInBounds (k * 18) (.int .i64 x0) = arr (pre18 xs ++ (x0 :: 0 :: 0 :: 0 :: 0 :: 0 :: 0 :: 0 :: 0 :: 0 :: 0 :: 0 :: 0 :: 0 :: 0 :: 0 :: 0 :: 0 :: post18 xs.length)) := by
        rw [arr_set, ← hxl, rz_num xs hf (by omega)]
      have k1 := kk0.set (k * 18) (.int .i64 x0) hr1
      have d0 := (k1.cell (k * 18) (.int .i64 x0) (by rw [← hxl]; exact get_num xs hf _ _)).1
      have hz := rz_len xs hf (by omega)
      obtain ⟨old, hold⟩ : ∃ old, (arr (rz xs))[k * 18]? = some old := ⟨_, arr_get (rz xs) (k * 18) (by omega)⟩
      obtain ⟨c0k, m0k⟩ := kk0.cell (k * 18) old hold
      have e0 := kk0.eyeSet
      have lA0 := kk0.lA
      have K1 := Lib.hid k1
      clear h0 k1 kk0 hr1 hz hf hold
      refine wpAnyH_take (i := 6) (v := ?_) rfl (by kernel_rfl) (by kernel_rfl) (by kernel_rfl) (by first | exact fun _ _ _ h => h | exact fun _ _ _ h => HQP _ _ _ _ (by rfl) h) (Or.inl ⟨by rfl, ?_⟩) (by assumption) ?_
      rotate_left 1
      · (intro w hSw; (try dsimp only at hSw); go_simp; (try with_reducible rfl))
      (try simp only [List.getElem_toArray, List.getElem_cons_zero, List.getElem_cons_succ])
      (try simp only [Act.put, List.setIfInBounds_toArray, List.set_cons_zero, List.set_cons_succ])
      refine wpAnyH_take (i := 7) (v := ?_) rfl (by kernel_rfl) (by kernel_rfl) (by kernel_rfl) (by first | exact fun _ _ _ h => h | exact fun _ _ _ h => HQP _ _ _ _ (by rfl) h) (Or.inl ⟨by rfl, ?_⟩) (by assumption) ?_
      rotate_left 1
      · (intro w hSw; (try dsimp only at hSw); go_simp; (try with_reducible rfl))
      (try simp only [List.getElem_toArray, List.getElem_cons_zero, List.getElem_cons_succ])
      (try simp only [Act.put, List.setIfInBounds_toArray, List.set_cons_zero, List.set_cons_succ])
      refine wpAnyH_ready (rs := [8]) (by kernel_rfl) (by simp) ?_
      refine AllReadyH.cons rfl (fun K hK => ?_) AllReadyH.nil
      go_simp
      refine hK.out _ _ K1.out.eye (fun hHeld3 => ?_)
      clear hK K
      (try simp only [Act.put, List.setIfInBounds_toArray, List.set_cons_zero, List.set_cons_succ])
      refine wpAnyH_done (by kernel_rfl) ?_ _
      have ek := K1.out.eye
      generalize V0.setCell ⟨A, k * 18, none⟩ (.int .i64 x0) = U1 at *
      by_cases hv0 : x0 = 0
      · have hL := L1.out
        simp only [if_pos hv0] at hL
        have L2 := Lib.hid (HS.out _ _ hL)
        have hv1 : (x0 : Int) = 0 := by omega
        have HV0 := Lib.hid hv0
        clear hL L1 HS HF c0k m0k e0 lA0 hHeld hHeld2 hHeld3 hv0
        go_wp2_with fail
        exact ⟨⟨k + 1, xs ++ [zRound], q0, by omega, by simp, by simp [hxl], fun x hx => by
            rcases List.mem_append.1 hx with h | h
            · exact HFN.out x h
            · obtain rfl := List.mem_singleton.1 h; exact ⟨by simp [zRound], by simp [zRound]⟩, L2.out, by rw [rz_none]; have h1 := K1.out; rw [HV0.out] at h1; exact h1⟩, by show n - ((k : Int) + 1).toNat < n - (k : Int).toNat; omega⟩
      · have hL := L1.out
        simp only [if_neg hv0] at hL
        have L2 := Lib.hid hL
        have hv1 : ¬ ((x0 : Int) = 0) := by omega
        clear hL L1 c0k m0k lA0 hHeld hHeld2 hHeld3
        go_wp2_with fail
        clear e0 d0
        refine wp_region_held_drew (S := fun w' => w'.cellsAt ⟨B, 0, none⟩ 1 = some [pt R]) (by kernel_rfl) (K1.out.grew (by repeat (first | with_reducible exact HG.out | with_reducible exact Grew.refl _ | with_reducible assumption | with_reducible apply Grew.plus | with_reducible apply Grew.drewN | with_reducible apply Grew.drew | with_reducible apply Grew.alloc | with_reducible refine Grew.setCell ?_ (by simp [go_sem]; try omega) _))).eye (fun hHeld => ?_)
        refine wpAnyH_take (i := 0) (v := ?_) rfl (by kernel_rfl) (by kernel_rfl) (by kernel_rfl) (by first | exact fun _ _ _ h => h | exact fun _ _ _ h => HQP _ _ _ _ (by rfl) h) (Or.inl ⟨by rfl, ?_⟩) (by assumption) ?_
        rotate_left 1
        · (intro w hSw; (try dsimp only at hSw); go_simp; (try with_reducible rfl))
        (try simp only [List.getElem_toArray, List.getElem_cons_zero, List.getElem_cons_succ])
        (try simp only [Act.put, List.setIfInBounds_toArray, List.set_cons_zero, List.set_cons_succ])
        refine wpAnyH_take (i := 1) (v := ?_) rfl (by kernel_rfl) (by kernel_rfl) (by kernel_rfl) (by first | exact fun _ _ _ h => h | exact fun _ _ _ h => HQP _ _ _ _ (by rfl) h) (Or.inl ⟨by rfl, ?_⟩) (by assumption) ?_
        rotate_left 1
        · (intro w hSw; (try dsimp only at hSw); go_simp; (try with_reducible rfl))
        (try simp only [List.getElem_toArray, List.getElem_cons_zero, List.getElem_cons_succ])
        (try simp only [Act.put, List.setIfInBounds_toArray, List.set_cons_zero, List.set_cons_succ])
        refine wpAnyH_take (i := 2) (v := ?_) rfl (by kernel_rfl) (by kernel_rfl) (by kernel_rfl) (by first | exact fun _ _ _ h => h | exact fun _ _ _ h => HQP _ _ _ _ (by rfl) h) (Or.inl ⟨by rfl, ?_⟩) (by assumption) ?_
        rotate_left 1
        · (intro w hSw; (try dsimp only at hSw); go_simp; (try with_reducible rfl))
        (try simp only [List.getElem_toArray, List.getElem_cons_zero, List.getElem_cons_succ])
        (try simp only [Act.put, List.setIfInBounds_toArray, List.set_cons_zero, List.set_cons_succ])
        refine wpAnyH_take (i := 3) (v := ?_) rfl (by kernel_rfl) (by kernel_rfl) (by kernel_rfl) (by first | exact fun _ _ _ h => h | exact fun _ _ _ h => HQP _ _ _ _ (by rfl) h) (Or.inl ⟨by rfl, ?_⟩) (by assumption) ?_
        rotate_left 1
        · (intro w hSw; (try dsimp only at hSw); go_simp; (try with_reducible rfl))
        (try simp only [List.getElem_toArray, List.getElem_cons_zero, List.getElem_cons_succ])
        (try simp only [Act.put, List.setIfInBounds_toArray, List.set_cons_zero, List.set_cons_succ])
        refine wpAnyH_take (i := 4) (v := ?_) rfl (by kernel_rfl) (by kernel_rfl) (by kernel_rfl) (by first | exact fun _ _ _ h => h | exact fun _ _ _ h => HQP _ _ _ _ (by rfl) h) (Or.inl ⟨by rfl, ?_⟩) (by assumption) ?_
        rotate_left 1
        · (intro w hSw; (try dsimp only at hSw); go_simp; (try with_reducible rfl))
        (try simp only [List.getElem_toArray, List.getElem_cons_zero, List.getElem_cons_succ])
        (try simp only [Act.put, List.setIfInBounds_toArray, List.set_cons_zero, List.set_cons_succ])
        refine wpAnyH_ready (rs := [5]) (by kernel_rfl) (by simp) ?_
        refine AllReadyH.cons rfl (fun K hK => ?_) AllReadyH.nil
        go_simp
        go_at_call 88
        refine (K1.out.grew (by exact by repeat (first | with_reducible exact HG.out | with_reducible exact Grew.refl _ | with_reducible assumption | with_reducible apply Grew.plus | with_reducible apply Grew.drewN | with_reducible apply Grew.drew | with_reducible apply Grew.alloc | with_reducible refine Grew.setCell ?_ (by simp [go_sem]; try omega) _))).row 9223372036854775807 (by decide) (by decide) (k * 18 + 1) (by rw [arr_size, len_1 xs HFN.out (by omega)]; omega) (fun r v w' h hv hg => ?_) (fun c q2 V2 h2 kk2 => ?_)
        · exact ⟨rfl, HF.out r v w' (L2.out.trans (bind_no h)) hv hg⟩
        have L3 := Lib.hid (L2.out.trans (bind_ok h2))
        have hc8 := pRow_len h2
        rw [putRow_arr, ← hxl, rz_cut xs HFN.out x0 c hc8, hxl] at kk2
        refine hK.out _ _ kk2.eye (fun hHeld2 => ?_)
        clear hK K
        (try simp only [Act.put, List.setIfInBounds_toArray, List.set_cons_zero, List.set_cons_succ])
        refine wpAnyH_done (by kernel_rfl) ?_ _
        have HK2 := Lib.hid kk2
        clear h2 kk2 L2 hHeld hHeld2 ek K1
        go_wp2_with fail
        refine wp_region_held_drew (S := fun w' => w'.cellsAt ⟨B, 0, none⟩ 1 = some [pt R]) (by kernel_rfl) (HK2.out.grew (by repeat (first | with_reducible exact HG.out | with_reducible exact Grew.refl _ | with_reducible assumption | with_reducible apply Grew.plus | with_reducible apply Grew.drewN | with_reducible apply Grew.drew | with_reducible apply Grew.alloc | with_reducible refine Grew.setCell ?_ (by simp [go_sem]; try omega) _))).eye (fun hHeld => ?_)
        refine wpAnyH_take (i := 0) (v := ?_) rfl (by kernel_rfl) (by kernel_rfl) (by kernel_rfl) (by first | exact fun _ _ _ h => h | exact fun _ _ _ h => HQP _ _ _ _ (by rfl) h) (Or.inl ⟨by rfl, ?_⟩) (by assumption) ?_
        rotate_left 1
        · (intro w hSw; (try dsimp only at hSw); go_simp; (try with_reducible rfl))
        (try simp only [List.getElem_toArray, List.getElem_cons_zero, List.getElem_cons_succ])
        (try simp only [Act.put, List.setIfInBounds_toArray, List.set_cons_zero, List.set_cons_succ])
        refine wpAnyH_take (i := 1) (v := ?_) rfl (by kernel_rfl) (by kernel_rfl) (by kernel_rfl) (by first | exact fun _ _ _ h => h | exact fun _ _ _ h => HQP _ _ _ _ (by rfl) h) (Or.inl ⟨by rfl, ?_⟩) (by assumption) ?_
        rotate_left 1
        · (intro w hSw; (try dsimp only at hSw); go_simp; (try with_reducible rfl))
        (try simp only [List.getElem_toArray, List.getElem_cons_zero, List.getElem_cons_succ])
        (try simp only [Act.put, List.setIfInBounds_toArray, List.set_cons_zero, List.set_cons_succ])
        refine wpAnyH_take (i := 2) (v := ?_) rfl (by kernel_rfl) (by kernel_rfl) (by kernel_rfl) (by first | exact fun _ _ _ h => h | exact fun _ _ _ h => HQP _ _ _ _ (by rfl) h) (Or.inl ⟨by rfl, ?_⟩) (by assumption) ?_
        rotate_left 1
        · (intro w hSw; (try dsimp only at hSw); go_simp; (try with_reducible rfl))
        (try simp only [List.getElem_toArray, List.getElem_cons_zero, List.getElem_cons_succ])
        (try simp only [Act.put, List.setIfInBounds_toArray, List.set_cons_zero, List.set_cons_succ])
        refine wpAnyH_take (i := 3) (v := ?_) rfl (by kernel_rfl) (by kernel_rfl) (by kernel_rfl) (by first | exact fun _ _ _ h => h | exact fun _ _ _ h => HQP _ _ _ _ (by rfl) h) (Or.inl ⟨by rfl, ?_⟩) (by assumption) ?_
        rotate_left 1
        · (intro w hSw; (try dsimp only at hSw); go_simp; (try with_reducible rfl))
        (try simp only [List.getElem_toArray, List.getElem_cons_zero, List.getElem_cons_succ])
        (try simp only [Act.put, List.setIfInBounds_toArray, List.set_cons_zero, List.set_cons_succ])
        refine wpAnyH_take (i := 4) (v := ?_) rfl (by kernel_rfl) (by kernel_rfl) (by kernel_rfl) (by first | exact fun _ _ _ h => h | exact fun _ _ _ h => HQP _ _ _ _ (by rfl) h) (Or.inl ⟨by rfl, ?_⟩) (by assumption) ?_
        rotate_left 1
        · (intro w hSw; (try dsimp only at hSw); go_simp; (try with_reducible rfl))
        (try simp only [List.getElem_toArray, List.getElem_cons_zero, List.getElem_cons_succ])
        (try simp only [Act.put, List.setIfInBounds_toArray, List.set_cons_zero, List.set_cons_succ])
        refine wpAnyH_ready (rs := [5]) (by kernel_rfl) (by simp) ?_
        refine AllReadyH.cons rfl (fun K hK => ?_) AllReadyH.nil
        go_simp
        go_at_call 88
        refine (HK2.out.grew (by exact by repeat (first | with_reducible exact HG.out | with_reducible exact Grew.refl _ | with_reducible assumption | with_reducible apply Grew.plus | with_reducible apply Grew.drewN | with_reducible apply Grew.drew | with_reducible apply Grew.alloc | with_reducible refine Grew.setCell ?_ (by simp [go_sem]; try omega) _))).row 2 (by decide) (by decide) (k * 18 + 9) (by rw [arr_size, ← hxl, len_2 xs HFN.out (by omega) _ _ hc8]; omega) (fun r v w' h hv hg => ?_) (fun t q3 V3 h3 kk3 => ?_)
        · exact ⟨rfl, HF.out r v w' (L3.out.trans (bind_no h)) hv hg⟩
        have L4 := Lib.hid (L3.out.trans (bind_ok h3))
        have ht8 := pRow_len h3
        rw [putRow_arr, ← hxl, rz_votes xs HFN.out x0 c t hc8 ht8, hxl] at kk3
        refine hK.out _ _ kk3.eye (fun hHeld2 => ?_)
        clear hK K
        (try simp only [Act.put, List.setIfInBounds_toArray, List.set_cons_zero, List.set_cons_succ])
        refine wpAnyH_done (by kernel_rfl) ?_ _
        have HK3 := Lib.hid kk3
        clear h3 kk3 L3 hHeld hHeld2 HK2
        have ek3 := HK3.out.eye
        go_wp2_with fail
        refine HK3.out.number 0 2 (by decide) (by decide) (fun r v w' h hv hg => ?_) (fun d q4 V4 h4 kk4 => ?_)
        · exact ⟨rfl, HF.out r v w' (L4.out.trans (bind_no h)) hv hg⟩
        have L5 := Lib.hid (HS.out _ _ (L4.out.trans (bind_ok h4)))
        obtain ⟨old4, hold4⟩ : ∃ old, (arr (pre18 xs ++ (x0 :: (pad8 c ++ (pad8 t ++ (0 :: post18 k))))))[k * 18 + 17]? = some old := ⟨_, arr_get _ _ (by rw [← hxl, len_3 xs HFN.out (by omega) _ _ _ hc8 ht8]; omega)⟩
        obtain ⟨c4k, m4k⟩ := kk4.cell (k * 18 + 17) old4 hold4
        have lA4 := kk4.lA
        have K5 := Lib.hid (kk4.set (k * 18 + 17) (.int .i64 d) (cs' := arr (rz (xs ++ [⟨x0, c, t, d⟩]))) (by rw [arr_set, ← hxl, rz_dec xs HFN.out x0 c t hc8 ht8 d]))
        clear h4 kk4 L4 hold4 HK3 ek3
        go_wp2_with fail
        exact ⟨⟨k + 1, xs ++ [⟨x0, c, t, d⟩], q4, by omega, rfl, by simp [hxl], fun x hx => by
            rcases List.mem_append.1 hx with h | h
            · exact HFN.out x h
            · obtain rfl := List.mem_singleton.1 h; exact ⟨hc8, ht8⟩, L5.out, K5.out⟩, by show n - ((k : Int) + 1).toNat < n - (k : Int).toNat; omega⟩
    · have hkn : k = n := by omega
      subst hkn
      have HKE := Lib.hid ke
      rw [Nat.sub_self, pLoop_zero] at hl
      have hlen := rz_len xs hfine (by omega)
      have HRA := Lib.hid (range_all ke.o)
      have HTH := Lib.hid (there_all ke.o)
      have hself := setCells_self ke.o
      have hl2 := run_loadVar_mid (P := Tryz.prog) W1 A 0 33 _ _ HRA.out Tryz.underlying33 rfl (by rw [Array.length_toList, arr_size, hlen]; exact info_rounds)
      have HLE := Lib.hid hlen
      clear ke hlen hfine
      go_wp2_with (first
        | (refine wpList_load_mid (by rfl) 33 (.tmp 2) (by rfl) A 0 (by rfl) (arr (rz xs)).toList _ HRA.out Tryz.underlying33 rfl (by rw [Array.length_toList, arr_size, HLE.out]; exact info_rounds) ?_)
        | (refine wpList_store_mid (by rfl) 33 (.tmp 2) (.tmp 45) (by rfl) A 0 (arr (rz xs)) (by rfl) (by rfl) HTH.out (by rw [arr_size, HLE.out]; exact info_rounds) (arr_ones _) ?_; rw [hself]))
      exact bodyPost_ret (v := .agg (arr (rz xs))) (by simp [results, Tryz.results56, Sem.run_bind, Sem.run_pure, asAddr, Act.put, hl2]) rfl ⟨HKE.out.g, by rw [HL2.out, ← hl]; exact ⟨⟨rfl, HLE.out⟩, HKE.out.r⟩⟩

end
end Go.Proofs.YtnhmekdnfinmiaaGreatDoor
/- Walks: what stands while image's eye fills Parts; rows in memory. -/
namespace Go
open Go.RowKit
theorem stepApp {P : Program} {ops : Array Oper} {o : Oper} {a : Act} {w : World} {Q : Exit → Act → World → Prop} {K : Act → World → Prop} {E : Prop} (hgd : o.guard = none) (s x : Operand) (t : TypeId)
    (ho : o.op = .call { callee := .builtin .append, args := #[s, x], argTypes := #[t, t] })
    {e : TypeId} {size bytes : Nat} (hE : Elem P t e size bytes) (base : Nat) (v : Value) (n : Nat) (xs : List Value) (hs : a.eval s = v) (hown : w.ownsRow base e size v n xs)
    (B m c : Nat) (cs : Array Value) (tt : TypeId) (hx : a.eval x = .slice (some ⟨B, 0, none⟩) m c) (hb : w.heap[B]? = some (.cells cs tt (0, 0))) (hl : cs.size = m * size) (h1 : ∀ u ∈ cs.toList, u.oneCell' = true)
    (hm : 0 < m) (hbytes : (n + m) * bytes ≤ 140737488355328) (h63 : n + m ≤ maxLen) (W0 : World) (hg0 : Grew W0 w) (h00 : W0.heap.size ≤ base) (hbase : base ≤ w.heap.size)
    (h : ∀ g cap w1, Grew W0 w1 → w1.ownsRow base e size (.slice (some ⟨g, 0, none⟩) (n + m) cap) (n + m) (xs ++ cs.toList) → (∀ k, k < w.heap.size → some k ≠ v.ownBlock → w1.heap[k]? = w.heap[k]?) → w.heap.size ≤ w1.heap.size → (v.ownBlock = some g ∨ g = w.heap.size) → K (a.put o.dst (.slice (some ⟨g, 0, none⟩) (n + m) cap)) w1) :
    if Region.wanted o (yielded ops a.tmps) = true then Oper.wp P o a w K Q else E := by
  obtain ⟨ht, i, z, hi, hz, hsz, hby, hzs, h0⟩ := hE
  refine step_append_lies w hgd s x t ho base e i z size bytes ht hi hz hsz hby hzs h0 v n xs hs hown _ m c cs.toList hx (by simpa using hl) (World.news_of_block hb) h1 hm h63 hbytes hbase _ rfl (fun g cap w1 hown1 hgrow hat hlt => ?_)
  exact h g cap w1 (hg0.grown hgrow (fun k hk => by have := (hown.lt k hk).1; omega)) hown1 hgrow.block hgrow.size hat
end Go
namespace Go.Par
def pcells (h : List Value) (zs : List Nat) (t : List Value) : Array Value := (h ++ ((zs.map fun n : Nat => Value.int .i64 n) ++ t)).toArray
theorem pc_head {h : List Value} {zs : List Nat} {t : List Value} (i : Nat) (hi : i < h.length) (v : Value) : (pcells h zs t).setIfInBounds i v = pcells (h.set i v) zs t := by
  simp [pcells, List.set_append_left, hi]
theorem pc_tail {h : List Value} {zs : List Nat} {t : List Value} (hh : h.length = 9) (hz : zs.length = 144) (j : Nat) (v : Value) : (pcells h zs t).setIfInBounds (153 + j) v = pcells h zs (t.set j v) := by
  simp only [pcells, List.setIfInBounds_toArray]
  rw [List.set_append_right _ _ (by omega), List.set_append_right _ _ (by simp; omega)]
  congr 4
  simp; omega
theorem pc_get_head {h : List Value} {zs : List Nat} {t : List Value} (i : Nat) (hi : i < h.length) : (pcells h zs t)[i]? = some (h[i]'hi) := by
  simp only [pcells, List.getElem?_toArray]
  rw [List.getElem?_append_left hi, List.getElem?_eq_getElem hi]
theorem pc_get_tail {h : List Value} {zs : List Nat} {t : List Value} (hh : h.length = 9) (hz : zs.length = 144) (j : Nat) (hj : j < t.length) : (pcells h zs t)[153 + j]? = some (t[j]'hj) := by
  simp only [pcells, List.getElem?_toArray]
  rw [List.getElem?_append_right (by omega), List.getElem?_append_right (by simp; omega)]
  rw [← List.getElem?_eq_getElem hj]
  congr 1
  simp; omega
def putA (cs : Array Value) (o : Nat) : List Value → Array Value
  | [] => cs
  | v :: vs => putA (cs.setIfInBounds o v) (o + 1) vs
theorem putA_mid : ∀ (vs A X C : List Value), X.length = vs.length → putA (A ++ (X ++ C)).toArray A.length vs = (A ++ (vs ++ C)).toArray
  | [], A, X, C, h => by
    obtain rfl := List.eq_nil_of_length_eq_zero h
    rfl
  | v :: vs, A, [], C, h => by simp at h
  | v :: vs, A, x :: X, C, h => by
    show putA ((A ++ (x :: X ++ C)).toArray.setIfInBounds A.length v) (A.length + 1) vs = _
    rw [List.setIfInBounds_toArray, List.set_append_right _ _ (Nat.le_refl _), Nat.sub_self]
    have := putA_mid vs (A ++ [v]) X C (by simpa using h)
    simpa using this
theorem pc_rounds {h : List Value} {zs zs' : List Nat} {t : List Value} (hh : h.length = 9) (hz : zs.length = 144) (hz' : zs'.length = 144) : putA (pcells h zs t) 9 (arr zs').toList = pcells h zs' t := by
  have := putA_mid (zs'.map fun n : Nat => Value.int .i64 n) h (zs.map fun n : Nat => Value.int .i64 n) t (by simp [hz, hz'])
  rw [hh] at this
  simpa [pcells, arr] using this
theorem pc_size {h : List Value} {zs : List Nat} {t : List Value} (hh : h.length = 9) (hz : zs.length = 144) (ht : t.length = 7) : (pcells h zs t).size = 160 := by simp [pcells, hh, hz, ht]
structure OV where
  dst : Nat
  bytes : List UInt8
  at_ : Option Addr
  cap : Nat
def ovRow (self : Nat) (o : OV) : List Value := [.int .i64 0, .int .i64 self, .int .i64 o.dst, .slice o.at_ o.bytes.length o.cap]
theorem ovRow_len (self : Nat) (o : OV) : (ovRow self o).length = 4 := rfl
def elD (x : PEl) : ElD := ⟨x.id.ep, x.id.rp, x.id.nb, x.ch, 0⟩
end Go.Par
namespace Go.Proofs.YtnhmekdnfinmiaaGreatDoor
open Go.RowKit Go.Par
set_option linter.unusedSimpArgs false
set_option linter.unusedVariables false
def ActsIn (W : World) (v : Value) (xs : List PAct) : Prop := ∃ ar cp, v = .slice ar xs.length cp ∧ xs.length ≤ cp ∧ cp ≤ 9223372036854775807 ∧ CellsIn W ar ((xs.map actD).flatMap actRow)
def ElsIn (W : World) (v : Value) (xs : List PEl) : Prop := ∃ ar cp, v = .slice ar xs.length cp ∧ xs.length ≤ cp ∧ cp ≤ 9223372036854775807 ∧ CellsIn W ar ((xs.map elD).flatMap elRow)
def HistsAt (W : World) (v : Value) (xs : List (List PChange)) : Prop := ∃ ar cp vs, v = .slice ar xs.length cp ∧ xs.length ≤ cp ∧ cp ≤ 9223372036854775807 ∧ CellsIn W ar vs ∧ HistsIn W 0 none vs xs
def OvsIn (W : World) (base : Nat) (ne : Option Nat) (os : List OV) : Prop := ∀ o ∈ os, o.bytes.length ≤ o.cap ∧ o.cap ≤ 9223372036854775807 ∧ CellsIn W o.at_ (bv o.bytes) ∧ ∀ b, o.at_ = some b → base ≤ b.block ∧ b.block < W.heap.size ∧ some b.block ≠ ne
def OutsIn (W : World) (v : Value) (self : Nat) (xs : List POut) : Prop := ∃ ar cp os, v = .slice ar xs.length cp ∧ xs.length ≤ cp ∧ cp ≤ 9223372036854775807 ∧ CellsIn W ar (os.flatMap (ovRow self)) ∧ OvsIn W 0 none os ∧ os.map (fun o => (⟨o.dst, o.bytes⟩ : POut)) = xs
theorem OvsIn.grewX {w w' : World} {ks : List Nat} {base : Nat} {ne ne' : Option Nat} {os : List OV} (hh : OvsIn w base ne os) (hg : GrewX ks w w') (hk : ∀ k ∈ ks, k < base ∨ some k = ne) (hne : ∀ b, base ≤ b → b < w.heap.size → some b ≠ ne → some b ≠ ne') : OvsIn w' base ne' os := fun o ho => by
  obtain ⟨h1, h2, h3, h4⟩ := hh o ho
  refine ⟨h1, h2, hg.cells h3 (fun q hq hm => ?_), fun b hb => ?_⟩
  · obtain ⟨h5, h6, h7⟩ := h4 q hq
    rcases hk _ hm with h | h
    · omega
    · exact h7 h
  · obtain ⟨h5, h6, h7⟩ := h4 b hb
    exact ⟨h5, Nat.lt_of_lt_of_le h6 hg.size, hne _ h5 h6 h7⟩
theorem isActs_in {base : Nat} {W W' : World} {ks : List Nat} {ar : Option Addr} {cp : Nat} {xs : List PAct} (h : W.ownsRow base 112 13 (.slice ar xs.length cp) xs.length ((xs.map actD).flatMap actRow)) (hg : GrewX ks W W') (hk : ∀ k ∈ ks, k < base) : ActsIn W' (.slice ar xs.length cp) xs := by
  have h2 := h.grewX hg hk
  exact ⟨ar, cp, rfl, h2.caps.1, h2.caps.2, h2.cin⟩
theorem isEdits_in {base : Nat} {W W' : World} {ks : List Nat} {ar : Option Addr} {cp : Nat} {xs : List (List PChange)} {vs : List Value} (h : W.ownsRow base 114 1 (.slice ar xs.length cp) xs.length vs) (hh : HistsIn W base (Value.slice ar xs.length cp).ownBlock vs xs) (hg : GrewX ks W W') (hk : ∀ k ∈ ks, k < base) : HistsAt W' (.slice ar xs.length cp) xs := by
  have h2 := h.grewX hg hk
  refine ⟨ar, cp, vs, rfl, h2.caps.1, h2.caps.2, h2.cin, ?_⟩
  have h3 : HistsIn W' base none vs xs := hh.grewX hg (fun k hm => .inl (hk k hm)) (fun b _ _ _ => by simp)
  exact h3.low (Nat.zero_le _)
structure EP (S : Nat → Addr) (w0 : World) (R : Nat) (a : Option Addr) (cap : Nat) (l : List UInt8) (B A Z Y : Nat) (t : TypeId) (F : World → Prop) (Wb W : World) (q : Nat) (cs : Array Value) : Prop where
  k : EK S w0 R a cap l B A t Wb W q cs
  f : ∀ W', GrewX [R, A, Z, Y] W W' → F W'
  zl : Z < Wb.heap.size ∧ Y < Wb.heap.size
namespace EP
variable {S : Nat → Addr} {w0 W Wb W' : World} {R : Nat} {a : Option Addr} {cap : Nat} {l : List UInt8} {B A Z Y : Nat} {t : TypeId} {F : World → Prop} {q q' : Nat} {cs : Array Value}
theorem step (k : EP S w0 R a cap l B A Z Y t F Wb W q cs) (hg : GrewX [R] W W') (hr : RA S w0 R a cap l W' q') : EP S w0 R a cap l B A Z Y t F Wb W' q' cs :=
  ⟨k.k.step hg hr, fun W2 h2 => k.f W2 ((hg.mono (by simp)).trans h2), k.zl⟩
theorem grew (k : EP S w0 R a cap l B A Z Y t F Wb W q cs) (hg : Grew W W') : EP S w0 R a cap l B A Z Y t F Wb W' q cs := k.step (GrewX.of_grew hg) (k.k.r.grew hg)
theorem set (k : EP S w0 R a cap l B A Z Y t F Wb W q cs) (i : Nat) (v : Value) {cs' : Array Value} (h : cs.setIfInBounds i v = cs') : EP S w0 R a cap l B A Z Y t F Wb (W.setCell ⟨A, i, none⟩ v) q cs' :=
  ⟨k.k.set i v h, fun W2 h2 => k.f W2 (((GrewX.refl _ _).set (.inl (by simp)) _).trans h2), k.zl⟩
theorem eye (k : EP S w0 R a cap l B A Z Y t F Wb W q cs) : W.cellsAt ⟨B, 0, none⟩ 1 = some [pt R] := k.k.eye
theorem eyeSet (k : EP S w0 R a cap l B A Z Y t F Wb W q cs) (i : Nat) (u : Value) : (W.setCell ⟨A, i, none⟩ u).cellsAt ⟨B, 0, none⟩ 1 = some [pt R] := (k.set i u rfl).eye
theorem cell (k : EP S w0 R a cap l B A Z Y t F Wb W q cs) (i : Nat) (u : Value) (h : cs[i]? = some u) : W.cell? ⟨A, i, none⟩ = some u ∧ W.frozen? ⟨A, i, none⟩ = false := k.k.cell i u h
theorem lA (k : EP S w0 R a cap l B A Z Y t F Wb W q cs) : A < W.heap.size := k.k.lA
theorem put : ∀ (vs : List Value) {W : World} {cs : Array Value} (o : Nat), EP S w0 R a cap l B A Z Y t F Wb W q cs → EP S w0 R a cap l B A Z Y t F Wb (W.setCells A o vs) q (putA cs o vs)
  | [], W, cs, o, k => k
  | v :: vs, W, cs, o, k => put vs (o + 1) (k.set o v rfl)
theorem also (k : EP S w0 R a cap l B A Z Y t F Wb W q cs) {G : World → Prop} (h : ∀ W', GrewX [R, A, Z, Y] W W' → F W' → G W') : EP S w0 R a cap l B A Z Y t G Wb W q cs := ⟨k.k, fun W' h' => h W' h' (k.f W' h'), k.zl⟩
theorem now (k : EP S w0 R a cap l B A Z Y t F Wb W q cs) : F W := k.f W (GrewX.refl _ _)
theorem number (k : EP S w0 R a cap l B A Z Y t F Wb W q cs) (least : Nat) (m : Int) (hm : 0 ≤ m) (hm2 : m ≤ 9223372036854775807) {X : Ending → World → Prop}
    (hno : ∀ r v w', pNum l least m q = .error r → WhyAt S w' r v → GrewX [R] Wb w' → X (.panicked [{ v := istop (placeOf r) v, recovered := false }]) w')
    (hok : ∀ (n q' : Nat) w', pNum l least m q = .ok (n, q') → EP S w0 R a cap l B A Z Y t F Wb w' q' cs → X (.returned (.int .i64 n)) w') :
    Calls Tryz.prog 52 #[.agg #[pt R], .int .i64 least, .int .i64 m] W X := by
  refine (eye_number k.k.r least m hm hm2).mono ?_
  rintro e w' ⟨hg, hp⟩
  cases h : pNum l least m q with
  | error r =>
    rw [h] at hp
    obtain ⟨v, rfl, hv⟩ := hp
    exact hno r v w' h hv (k.k.g.trans hg)
  | ok x =>
    obtain ⟨n, q'⟩ := x
    rw [h] at hp
    obtain ⟨he, hr⟩ := hp
    cases (show e = _ from he)
    exact hok n q' w' h (k.step hg hr)
theorem count (k : EP S w0 R a cap l B A Z Y t F Wb W q cs) (least : Nat) (h1 : 1 ≤ least) (h4 : least ≤ 4) {X : Ending → World → Prop}
    (hno : ∀ r v w', pCount l least q = .error r → WhyAt S w' r v → GrewX [R] Wb w' → X (.panicked [{ v := istop (placeOf r) v, recovered := false }]) w')
    (hok : ∀ (n q' : Nat) w', pCount l least q = .ok (n, q') → EP S w0 R a cap l B A Z Y t F Wb w' q' cs → X (.returned (.int .i64 n)) w') :
    Calls Tryz.prog 53 #[.agg #[pt R], .int .i64 least] W X := by
  refine (eye_count k.k.r least h1 h4).mono ?_
  rintro e w' ⟨hg, hp⟩
  cases h : pCount l least q with
  | error r =>
    rw [h] at hp
    obtain ⟨v, rfl, hv⟩ := hp
    exact hno r v w' h hv (k.k.g.trans hg)
  | ok x =>
    obtain ⟨n, q'⟩ := x
    rw [h] at hp
    obtain ⟨he, hr⟩ := hp
    cases (show e = _ from he)
    exact hok n q' w' h (k.step hg hr)
theorem byte (k : EP S w0 R a cap l B A Z Y t F Wb W q cs) (lo hi : Nat) {X : Ending → World → Prop}
    (hno : ∀ r v w', pByte l lo hi q = .error r → WhyAt S w' r v → GrewX [R] Wb w' → X (.panicked [{ v := istop (placeOf r) v, recovered := false }]) w')
    (hok : ∀ (b : UInt8) (q' : Nat) w', pByte l lo hi q = .ok (b, q') → EP S w0 R a cap l B A Z Y t F Wb w' q' cs → X (.returned (.int .i64 b.toNat)) w') :
    Calls Tryz.prog 51 #[.agg #[pt R], .int .u8 lo, .int .u8 hi] W X := by
  refine (eye_byte k.k.r lo hi).mono ?_
  rintro e w' ⟨hg, hp⟩
  cases h : pByte l lo hi q with
  | error r =>
    rw [h] at hp
    obtain ⟨v, rfl, hv⟩ := hp
    exact hno r v w' h hv (k.k.g.trans hg)
  | ok x =>
    obtain ⟨n, q'⟩ := x
    rw [h] at hp
    obtain ⟨he, hr⟩ := hp
    cases (show e = _ from he)
    exact hok n q' w' h (k.step hg hr)
theorem id (k : EP S w0 R a cap l B A Z Y t F Wb W q cs) {X : Ending → World → Prop}
    (hno : ∀ r v w', pId l q = .error r → WhyAt S w' r v → GrewX [R] Wb w' → X (.panicked [{ v := istop (placeOf r) v, recovered := false }]) w')
    (hok : ∀ (i : PId) (q' : Nat) w', pId l q = .ok (i, q') → EP S w0 R a cap l B A Z Y t F Wb w' q' cs → X (.returned (idV i)) w') :
    Calls Tryz.prog 54 #[.agg #[pt R]] W X := by
  refine (eye_id k.k.r).mono ?_
  rintro e w' ⟨hg, hp⟩
  cases h : pId l q with
  | error r =>
    rw [h] at hp
    obtain ⟨v, rfl, hv⟩ := hp
    exact hno r v w' h hv (k.k.g.trans hg)
  | ok x =>
    obtain ⟨n, q'⟩ := x
    rw [h] at hp
    obtain ⟨he, hr⟩ := hp
    cases (show e = _ from he)
    exact hok n q' w' h (k.step hg hr)

theorem acts (k : EP S w0 R a cap l B A Z Y t F Wb W q cs) {X : Ending → World → Prop}
    (hno : ∀ r v w', pActs l q = .error r → WhyAt S w' r v → GrewX [R] Wb w' → X (.panicked [{ v := istop (placeOf r) v, recovered := false }]) w')
    (hok : ∀ (xs : List PAct) (q' : Nat) w' v, pActs l q = .ok (xs, q') → EP S w0 R a cap l B A Z Y t (fun W => F W ∧ ActsIn W v xs) Wb w' q' cs → v.oneCell' = true → X (.returned v) w') :
    Calls Tryz.prog 55 #[.agg #[pt R]] W X := by
  refine (eye_acts k.k.r).mono ?_
  rintro e w' ⟨hg, hp⟩
  cases h : pActs l q with
  | error r =>
    rw [h] at hp
    obtain ⟨v, rfl, hv⟩ := hp
    exact hno r v w' h hv (k.k.g.trans hg)
  | ok x =>
    obtain ⟨n, q'⟩ := x
    rw [h] at hp
    obtain ⟨⟨ar, cp, rfl, ho⟩, hr⟩ := hp
    have k2 := k.step hg hr
    exact hok n q' w' _ h (k2.also fun W' h' hF => ⟨hF, isActs_in ho h' (fun x hx => by
      rcases (by simpa using hx : x = R ∨ x = A ∨ x = Z ∨ x = Y) with rfl | rfl | rfl | rfl
      · exact k.k.r.lt
      · exact k.lA
      · exact Nat.lt_of_lt_of_le k.zl.1 k.k.g.size
      · exact Nat.lt_of_lt_of_le k.zl.2 k.k.g.size)⟩) rfl
theorem edits (k : EP S w0 R a cap l B A Z Y t F Wb W q cs) {X : Ending → World → Prop}
    (hno : ∀ r v w', pEdits l q = .error r → WhyAt S w' r v → GrewX [R] Wb w' → X (.panicked [{ v := istop (placeOf r) v, recovered := false }]) w')
    (hok : ∀ (xs : List (List PChange)) (q' : Nat) w' v, pEdits l q = .ok (xs, q') → EP S w0 R a cap l B A Z Y t (fun W => F W ∧ HistsAt W v xs) Wb w' q' cs → v.oneCell' = true → X (.returned v) w') :
    Calls Tryz.prog 57 #[.agg #[pt R]] W X := by
  refine (eye_edits k.k.r).mono ?_
  rintro e w' ⟨hg, hp⟩
  cases h : pEdits l q with
  | error r =>
    rw [h] at hp
    obtain ⟨v, rfl, hv⟩ := hp
    exact hno r v w' h hv (k.k.g.trans hg)
  | ok x =>
    obtain ⟨n, q'⟩ := x
    rw [h] at hp
    obtain ⟨⟨ar, cp, vs, rfl, ho, hh⟩, hr⟩ := hp
    have k2 := k.step hg hr
    exact hok n q' w' _ h (k2.also fun W' h' hF => ⟨hF, isEdits_in ho hh h' (fun x hx => by
      rcases (by simpa using hx : x = R ∨ x = A ∨ x = Z ∨ x = Y) with rfl | rfl | rfl | rfl
      · exact k.k.r.lt
      · exact k.lA
      · exact Nat.lt_of_lt_of_le k.zl.1 k.k.g.size
      · exact Nat.lt_of_lt_of_le k.zl.2 k.k.g.size)⟩) rfl
theorem rounds (k : EP S w0 R a cap l B A Z Y t F Wb W q cs) {X : Ending → World → Prop}
    (hno : ∀ r v w', pRounds l q = .error r → WhyAt S w' r v → GrewX [R] Wb w' → X (.panicked [{ v := istop (placeOf r) v, recovered := false }]) w')
    (hok : ∀ (xs : List PRound) (q' : Nat) w', pRounds l q = .ok (xs, q') → EP S w0 R a cap l B A Z Y t F Wb w' q' cs → (rz xs).length = 144 → X (.returned (.agg (arr (rz xs)))) w') :
    Calls Tryz.prog 56 #[.agg #[pt R]] W X := by
  refine (eye_rounds k.k.r).mono ?_
  rintro e w' ⟨hg, hp⟩
  cases h : pRounds l q with
  | error r =>
    rw [h] at hp
    obtain ⟨v, rfl, hv⟩ := hp
    exact hno r v w' h hv (k.k.g.trans hg)
  | ok x =>
    obtain ⟨n, q'⟩ := x
    rw [h] at hp
    obtain ⟨⟨rfl, hz⟩, hr⟩ := hp
    exact hok n q' w' h (k.step hg hr) hz
theorem at_ (k : EP S w0 R a cap l B A Z Y t F Wb W q cs) {X : Ending → World → Prop} (hok : X (.returned (.int .i64 q)) W) : Calls Tryz.prog 58 #[pt R] W X :=
  (wire_at k.k.r.r).mono (by rintro e w' ⟨rfl, rfl⟩; exact hok)
theorem text (k : EP S w0 R a cap l B A Z Y t F Wb W q cs) {X : Ending → World → Prop}
    (hno : ∀ r t z w', wText l 2147483647 q = .error r → WhyAt S w' r (.iface t z) → placeOf r = q → GrewX [R] Wb w' → X (.returned (.tuple #[.string ⟨#[]⟩, .iface t z])) w')
    (hok : ∀ (bs : List UInt8) (q' : Nat) w', wText l 2147483647 q = .ok (bs, q') → EP S w0 R a cap l B A Z Y t F Wb w' q' cs → X (.returned (.tuple #[.string ⟨bs.toArray⟩, .nilIface])) w') :
    Calls Tryz.prog 59 #[pt R, .int .i64 2147483647] W X := by
  refine (wire_Text k.k.r.s k.k.r.g k.k.r.hR k.k.r.r k.k.r.ab 2147483647 (by decide) (by decide)).mono ?_
  rintro e w' ⟨hg, hp⟩
  cases h : wText l 2147483647 q with
  | error r =>
    rw [h] at hp
    obtain ⟨v, rfl, hv⟩ := hp
    obtain ⟨t, z, rfl⟩ := hv.iface
    obtain ⟨c, k2, rfl⟩ := wText_wired l _ q r h
    exact hno _ t z w' h hv rfl (k.k.g.trans hg)
  | ok x =>
    obtain ⟨n, q'⟩ := x
    rw [h] at hp
    obtain ⟨rfl, hr⟩ := hp
    exact hok n q' w' h (k.step hg (k.k.r.step hg hr))
theorem end_ (k : EP S w0 R a cap l B A Z Y t F Wb W q cs) {X : Ending → World → Prop}
    (hno : ∀ r t z w', wEnd l q = .error r → WhyAt S w' r (.iface t z) → placeOf r = q → GrewX [R] Wb w' → X (.returned (.iface t z)) w')
    (hok : ∀ w', wEnd l q = .ok ((), q) → GrewX [R] W w' → X (.returned .nilIface) w') :
    Calls Tryz.prog 61 #[pt R] W X := by
  refine (wire_End k.k.r.s k.k.r.g k.k.r.r).mono ?_
  rintro e w' ⟨hg, hp⟩
  by_cases h : q < l.length
  · rw [if_pos h] at hp
    obtain ⟨v, rfl, hv⟩ := hp
    obtain ⟨t, z, rfl⟩ := hv.iface
    exact hno _ t z w' (by unfold wEnd; rw [if_pos h]) hv rfl (k.k.g.trans hg)
  · rw [if_neg h] at hp
    subst hp
    exact hok w' (by unfold wEnd; rw [if_neg h]) hg
end EP
theorem ek_app {S : Nat → Addr} {w0 V Wb w2 : World} {R : Nat} {a : Option Addr} {cap : Nat} {l : List UInt8} {B A : Nat} {t e : TypeId} {q D size n : Nat} {cs : Array Value} {v : Value} {xs : List Value} (k : EK S w0 R a cap l B A t Wb V q cs) (o : Obj)
    (hown : V.ownsRow D e size v n xs) (hA : A < D) (hB : B < D) (hR : R < D) (hab : ∀ x, a = some x → x.block < D) (hWb : Wb.heap.size ≤ D)
    (H : Grew w0 w2 ∧ (∀ k, k < (V.alloc o).heap.size → some k ≠ v.ownBlock → w2.heap[k]? = (V.alloc o).heap[k]?) ∧ (V.alloc o).heap.size ≤ w2.heap.size) :
    EK S w0 R a cap l B A t Wb w2 q cs ∧ GrewX v.ownBlock.toList V w2 := by
  have k2 := k.grew ((Grew.refl V).alloc o)
  have ho := hown.grew ((Grew.refl V).alloc o)
  obtain ⟨h1, h2, h3⟩ := app_close k2.r k2.g k2.e ho hWb hB hR hab H
  have hx := app_gx k2.r H.1 H.2.1 H.2.2
  refine ⟨⟨h1, h2, h3, hx.heap k2.o (fun hm => ?_), k.bR, k.aR, k.ba, k.a0, k.af, k.ab, k.rb⟩, (GrewX.of_grew ((Grew.refl V).alloc o)).trans hx⟩
  have := (ho.lt A (Option.mem_toList.1 hm)).1
  omega
end Go.Proofs.YtnhmekdnfinmiaaGreatDoor
/- Walks: image's eye: parts: the loop over the base (printed by wip/gen_j.py). -/
namespace Go.Par
def baseB (l : List UInt8) (_ : Nat) (xs : List PEl) : PM (List PEl) := (pEl l).bind fun c => PM.pure (xs ++ [c])
def outB (l : List UInt8) (_ : Nat) (xs : List POut) : PM (List POut) := (pOut1 l).bind fun c => PM.pure (xs ++ [c])
end Go.Par
namespace Go
def loopsOf : Code → List Code
  | .loop c => [c]
  | .seq a b => loopsOf a ++ loopsOf b
  | .block _ c => loopsOf c
  | .scope c => loopsOf c
  | .cond _ a b => loopsOf a ++ loopsOf b
  | _ => []
end Go
namespace Go.Proofs.YtnhmekdnfinmiaaGreatDoor
open Go.RowKit Go.Par
set_option linter.unusedSimpArgs false
set_option linter.unusedVariables false
noncomputable def partsLoop0 : Code := (((Tryz.f26.body.map loopsOf).getD [])[0]?).getD .skip
section
variable {S : Nat → Addr} {w0 w Wb : World} {R : Nat} {a : Option Addr} {cap : Nat} {l : List UInt8}
set_option maxRecDepth 1000000 in
set_option maxHeartbeats 2000000 in
theorem base_loop {Q : Exit → Act → World → Prop} {B A Z Y n q7 : Nat} (x1 x2 x3 x4 x5 x6 : Nat) (c0 c3 c4 c5 c6 c7 c8 c9 c10 c11 c12 c13 c14 c15 c16 c17 c18 c19 c20 c21 c22 c23 c24 c25 c26 c27 c28 c29 c30 c31 c32 c33 c36 c37 c38 c39 c40 c41 c42 c43 c44 c45 c46 c47 c48 c49 c50 c51 c52 c53 c54 c55 c56 c57 c58 c59 c60 c61 c62 c63 c64 c65 c66 c67 c68 c69 c70 c71 c72 c73 c74 c75 c76 c77 c78 c79 c80 c81 c82 c83 c84 c85 c86 c87 c88 c89 c90 c91 c92 c93 c94 c95 c96 c97 c98 c99 c100 c101 c102 c103 c104 c105 c106 c107 c108 c109 c110 c111 c112 c113 c114 c115 c116 c117 : Value)
    (k0 : EP S w0 R a cap l B A Z Y 41 (fun _ => True) Wb w q7 (pcells [.int .i64 x1, .int .i64 x2, .int .i64 x3, .int .i64 x4, .int .i64 x5, .int .i64 x6, .slice none 0 0, .slice none 0 0, .slice none 0 0] (rz []) [.slice none 0 0, .slice none 0 0, .bool false, .int .i64 0, .int .i64 0, .int .i64 0, .slice none 0 0])) (hn : n ≤ 2147483647)
    (HQP : ∀ c (a a' : Act) w, a.defers = a'.defers → Q (.panic c) a w → Q (.panic c) a' w)
    (hno : ∀ r v w' tm, pLoop (baseB l) n 0 [] q7 = .error r → WhyAt S w' r v → GrewX [R] Wb w' → Q (.panic [{ v := istop (placeOf r) v, recovered := false }]) ⟨tm, []⟩ w')
    (hok : ∀ (xs : List PEl) (q' : Nat) (w' : World) (v : Value) u3 u35 u36 u37 u38 u39 u40 u41 u42 u43 u44 u45 u46 u47 u48 u49, pLoop (baseB l) n 0 [] q7 = .ok (xs, q') → EP S w0 R a cap l B A Z Y 41 (fun W => ElsIn W v xs) Wb w' q' (pcells [.int .i64 x1, .int .i64 x2, .int .i64 x3, .int .i64 x4, .int .i64 x5, .int .i64 x6, v, .slice none 0 0, .slice none 0 0] (rz []) [.slice none 0 0, .slice none 0 0, .bool false, .int .i64 0, .int .i64 0, .int .i64 0, .slice none 0 0]) → Q (.exit 0) ⟨(c0 :: pt B :: pt A :: u3 :: c4 :: c5 :: c6 :: c7 :: c8 :: c9 :: c10 :: c11 :: c12 :: c13 :: c14 :: c15 :: c16 :: c17 :: c18 :: c19 :: c20 :: c21 :: c22 :: c23 :: c24 :: c25 :: c26 :: c27 :: c28 :: c29 :: c30 :: c31 :: c32 :: c33 :: .int .i64 n :: u35 :: u36 :: u37 :: u38 :: u39 :: u40 :: u41 :: u42 :: u43 :: u44 :: u45 :: u46 :: u47 :: u48 :: u49 :: c50 :: c51 :: c52 :: c53 :: c54 :: c55 :: c56 :: c57 :: c58 :: c59 :: c60 :: c61 :: c62 :: c63 :: c64 :: c65 :: c66 :: c67 :: c68 :: c69 :: c70 :: c71 :: c72 :: c73 :: c74 :: c75 :: c76 :: c77 :: c78 :: c79 :: c80 :: c81 :: c82 :: c83 :: c84 :: c85 :: c86 :: c87 :: c88 :: c89 :: c90 :: c91 :: c92 :: c93 :: c94 :: c95 :: c96 :: c97 :: c98 :: c99 :: c100 :: c101 :: c102 :: c103 :: c104 :: c105 :: c106 :: c107 :: c108 :: c109 :: c110 :: c111 :: c112 :: c113 :: c114 :: c115 :: c116 :: c117 :: []).toArray, []⟩ w') :
    Code.wp Tryz.prog (.loop partsLoop0) Q ⟨(c0 :: pt B :: pt A :: c3 :: c4 :: c5 :: c6 :: c7 :: c8 :: c9 :: c10 :: c11 :: c12 :: c13 :: c14 :: c15 :: c16 :: c17 :: c18 :: c19 :: c20 :: c21 :: c22 :: c23 :: c24 :: c25 :: c26 :: c27 :: c28 :: c29 :: c30 :: c31 :: c32 :: c33 :: .int .i64 n :: .int .i64 0 :: c36 :: c37 :: c38 :: c39 :: c40 :: c41 :: c42 :: c43 :: c44 :: c45 :: c46 :: c47 :: c48 :: c49 :: c50 :: c51 :: c52 :: c53 :: c54 :: c55 :: c56 :: c57 :: c58 :: c59 :: c60 :: c61 :: c62 :: c63 :: c64 :: c65 :: c66 :: c67 :: c68 :: c69 :: c70 :: c71 :: c72 :: c73 :: c74 :: c75 :: c76 :: c77 :: c78 :: c79 :: c80 :: c81 :: c82 :: c83 :: c84 :: c85 :: c86 :: c87 :: c88 :: c89 :: c90 :: c91 :: c92 :: c93 :: c94 :: c95 :: c96 :: c97 :: c98 :: c99 :: c100 :: c101 :: c102 :: c103 :: c104 :: c105 :: c106 :: c107 :: c108 :: c109 :: c110 :: c111 :: c112 :: c113 :: c114 :: c115 :: c116 :: c117 :: []).toArray, []⟩ w := by
  conv => arg 2; arg 1; whnf
  have HNO := Lib.hid hno
  have HOK := Lib.hid hok
  have HK := Lib.hid k0
  have lR := k0.k.r.lt
  have lA := k0.lA
  have lZ : Z < w.heap.size ∧ Y < w.heap.size := ⟨Nat.lt_of_lt_of_le k0.zl.1 k0.k.g.size, Nat.lt_of_lt_of_le k0.zl.2 k0.k.g.size⟩
  have lB := (Array.getElem?_eq_some_iff.1 k0.k.e).1
  clear hno hok k0
  generalize hDD : w.heap.size = D at *
  have HDD := Lib.hid hDD
  clear hDD
  go_loopw [35] (fun i wr => ∃ (k : Nat) (xs : List PEl) (q : Nat) (ar : Option Addr) (cp : Nat), k ≤ n ∧ i = .int .i64 k ∧ xs.length = k ∧ pLoop (baseB l) (n - k) k xs q = pLoop (baseB l) n 0 [] q7 ∧ EP S w0 R a cap l B A Z Y 41 (fun W => GrewX [R, A, Z, Y] w W ∧ W.ownsRow D 70 5 (.slice ar k cp) k ((xs.map elD).flatMap elRow)) Wb wr q (pcells [.int .i64 x1, .int .i64 x2, .int .i64 x3, .int .i64 x4, .int .i64 x5, .int .i64 x6, .slice ar k cp, .slice none 0 0, .slice none 0 0] (rz []) [.slice none 0 0, .slice none 0 0, .bool false, .int .i64 0, .int .i64 0, .int .i64 0, .slice none 0 0])) (fun i _ => n - (intOf i).toNat)
  case atStart => exact ⟨0, [], q7, none, 0, by omega, rfl, rfl, rfl, HK.out.also fun W' h' _ => ⟨h', rfl, .inl ⟨rfl, rfl⟩⟩⟩
  case round =>
    obtain ⟨W1, hW1⟩ : ∃ W1, W1 = wr := ⟨_, rfl⟩
    subst hW1
    obtain ⟨k, xs, q, ar, cp, hk, rfl, hxl, hl, ke⟩ := hrel
    by_cases hlt : k < n
    · have ce := ke.eye
      have HFE : Hid (∀ r v w' tm, pEl l q = .error r → WhyAt S w' r v → GrewX [R] Wb w' → Q (.panic [{ v := istop (placeOf r) v, recovered := false }]) ⟨tm, []⟩ w') := Lib.hid fun r v w' tm h hv hg2 => HNO.out r v w' tm (by rw [← hl, show n - k = (n - k - 1) + 1 by omega, pLoop_no (show baseB l k xs q = _ from bind_no h)]) hv hg2
      have HSE : Hid (∀ x q', pEl l q = .ok (x, q') → pLoop (baseB l) (n - (k + 1)) (k + 1) (xs ++ [x]) q' = pLoop (baseB l) n 0 [] q7) := Lib.hid fun x q' h => by rw [← hl, show n - k = (n - (k + 1)) + 1 by omega]; exact (pLoop_ok (show baseB l k xs q = _ from bind_ok h)).symm
      have HKE := Lib.hid (ke.also (G := fun W => (GrewX [R, A, Z, Y] w W ∧ W.ownsRow D 70 5 (.slice ar k cp) k ((xs.map elD).flatMap elRow)) ∧ W1.heap.size ≤ W.heap.size) fun W' hg hF => ⟨hF, hg.size⟩)
      clear ke hl
      go_wp2_with fail
      refine HKE.out.id (fun r v w' h hv hg => ?_) (fun i q8 V8 h8 k8 => ?_)
      · exact HFE.out r v w' _ (bind_no h) hv hg
      have L8 := Lib.hid (show pEl l q = _ from bind_ok h8)
      obtain ⟨i0, i1, i2⟩ := i
      simp only [idV]
      have e8 : ∀ o, (V8.alloc o).cellsAt ⟨B, 0, none⟩ 1 = some [pt R] := fun o => (k8.grew ((Grew.refl _).alloc o)).eye
      have a8 : ∀ o, (V8.alloc o).cell? ⟨A, 6, none⟩ = some (.slice ar k cp) := fun o => ((k8.grew ((Grew.refl _).alloc o)).cell 6 _ (pc_get_head 6 (by simp))).1
      have HK8 := Lib.hid k8
      clear h8 k8 ce
      go_wp2_with fail
      generalize hEE : V8.heap.size = E at *
      have HEE := Lib.hid hEE
      clear e8 a8 hEE
      have hE9 : (V8.alloc (.cells #[.int .i64 i0, .int .i64 i1, .int .i64 i2] 36)).heap[E]? = some (.cells #[.int .i64 i0, .int .i64 i1, .int .i64 i2] 36 (0, 0)) := heap_alloc_at _ _ _ HEE.out.symm
      have HK8b : Hid (W1.heap.size ≤ E) := Lib.hid (by have := HK8.out.now.2; have := HEE.out; omega)
      have HK9 := Lib.hid ((HK8.out.grew ((Grew.refl _).alloc (.cells #[.int .i64 i0, .int .i64 i1, .int .i64 i2] 36))).also (G := fun W' => (GrewX [R, A, Z, Y] w W' ∧ W'.ownsRow D 70 5 (.slice ar k cp) k ((xs.map elD).flatMap elRow)) ∧ W'.cellsAt ⟨E, 0, none⟩ 3 = some [.int .i64 i0, .int .i64 i1, .int .i64 i2]) fun W' hg hF => ⟨hF.1, World.cellsAt_block (hg.heap hE9 (by have := HK8.out.k.r.lt; have := HK8.out.lA; have := HK8.out.zl; have := HK8.out.k.g.size; have := HEE.out; simp; omega)) 3 rfl⟩)
      clear hE9
      generalize (V8.alloc (.cells #[.int .i64 i0, .int .i64 i1, .int .i64 i2] 36)) = W9 at *
      obtain ⟨k6, -⟩ := HK9.out.cell 6 _ (pc_get_head 6 (by simp))
      have lB9 : B < W9.heap.size := (Array.getElem?_eq_some_iff.1 HK9.out.k.e).1
      refine wp_region_held_drew (S := fun w' => w'.cellsAt ⟨B, 0, none⟩ 1 = some [pt R] ∧ w'.cellsAt ⟨E, 0, none⟩ 3 = some [.int .i64 i0, .int .i64 i1, .int .i64 i2]) (by kernel_rfl) ⟨(HK9.out.grew (by repeat (first | with_reducible exact HG.out | with_reducible exact Grew.refl _ | with_reducible assumption | with_reducible apply Grew.plus | with_reducible apply Grew.drewN | with_reducible apply Grew.drew | with_reducible apply Grew.alloc | with_reducible refine Grew.setCell ?_ (by simp [go_sem]; try omega) _))).eye, (HK9.out.grew (by exact by repeat (first | with_reducible exact HG.out | with_reducible exact Grew.refl _ | with_reducible assumption | with_reducible apply Grew.plus | with_reducible apply Grew.drewN | with_reducible apply Grew.drew | with_reducible apply Grew.alloc | with_reducible refine Grew.setCell ?_ (by simp [go_sem]; try omega) _))).now.2⟩ (fun hHeld => ?_)
      refine wpAnyH_take (i := 0) (v := ?_) rfl (by kernel_rfl) (by kernel_rfl) (by kernel_rfl) (by first | exact fun _ _ _ h => h | exact fun _ _ _ h => HQP _ _ _ _ (by rfl) h) (Or.inl ⟨by rfl, ?_⟩) (by assumption) ?_
      rotate_left 1
      · (intro w hSw; (try dsimp only at hSw); go_simp; (try with_reducible rfl))
      (try simp only [List.getElem_toArray, List.getElem_cons_zero, List.getElem_cons_succ])
      (try simp only [Act.put, List.setIfInBounds_toArray, List.set_cons_zero, List.set_cons_succ])
      refine wpAnyH_take (i := 2) (v := ?_) rfl (by kernel_rfl) (by kernel_rfl) (by kernel_rfl) (by first | exact fun _ _ _ h => h | exact fun _ _ _ h => HQP _ _ _ _ (by rfl) h) (Or.inl ⟨by rfl, ?_⟩) (by assumption) ?_
      rotate_left 1
      · (intro w hSw; (try dsimp only at hSw); go_simp; (try with_reducible rfl))
      (try simp only [List.getElem_toArray, List.getElem_cons_zero, List.getElem_cons_succ])
      (try simp only [Act.put, List.setIfInBounds_toArray, List.set_cons_zero, List.set_cons_succ])
      refine wpAnyH_take (i := 3) (v := ?_) rfl (by kernel_rfl) (by kernel_rfl) (by kernel_rfl) (by first | exact fun _ _ _ h => h | exact fun _ _ _ h => HQP _ _ _ _ (by rfl) h) (Or.inl ⟨by rfl, ?_⟩) (by assumption) ?_
      rotate_left 1
      · (intro w hSw; (try dsimp only at hSw); go_simp; (try with_reducible rfl))
      (try simp only [List.getElem_toArray, List.getElem_cons_zero, List.getElem_cons_succ])
      (try simp only [Act.put, List.setIfInBounds_toArray, List.set_cons_zero, List.set_cons_succ])
      refine wpAnyH_ready (rs := [1, 4]) (by kernel_rfl) (by simp) ?_
      refine AllReadyH.cons rfl (fun K hK => ?gx) (AllReadyH.cons rfl (fun K hK => ?gy) AllReadyH.nil)
      case' gx =>
        go_simp
        refine hK.out _ _ hHeld (fun _ => ?_)
        clear hK K
        (try simp only [Act.put, List.setIfInBounds_toArray, List.set_cons_zero, List.set_cons_succ])
        refine wpAnyH_ready (rs := [4]) (by kernel_rfl) (by simp) ?_
        refine AllReadyH.cons rfl (fun K hK => ?_) AllReadyH.nil
        go_simp
        go_at_call 52
        refine (HK9.out.grew (by exact by repeat (first | with_reducible exact HG.out | with_reducible exact Grew.refl _ | with_reducible assumption | with_reducible apply Grew.plus | with_reducible apply Grew.drewN | with_reducible apply Grew.drew | with_reducible apply Grew.alloc | with_reducible refine Grew.setCell ?_ (by simp [go_sem]; try omega) _))).number 0 1114111 (by decide) (by decide) (fun r v w' h hv hg => ?_) (fun ch q9 V9 h9 k9 => ?_)
        · exact HFE.out r v w' _ (L8.out.trans (bind_no h)) hv hg
        refine hK.out _ _ ⟨k9.eye, k9.now.2⟩ (fun hHeld2 => ?_)
        clear hK K
        (try simp only [Act.put, List.setIfInBounds_toArray, List.set_cons_zero, List.set_cons_succ])
        have hch : IntKind.i32.wrap (ch : Int) = ch := by have := (pNum_le h9).1; rw [IntKind.wrap_i32]; omega
        have L9 := Lib.hid (HSE.out _ _ (L8.out.trans (bind_ok h9)))
        have lA9 := k9.lA
        have HK9b := Lib.hid k9
        have HKA := Lib.hid (fun o => (k9.grew ((Grew.refl V9).alloc o)))
        have HB9 : Hid (∀ o, (V9.alloc o).heap[V9.heap.size]? = some o) := Lib.hid fun o => heap_alloc_at _ _ _ rfl
        obtain ⟨k69, -⟩ := k9.cell 6 _ (pc_get_head 6 (by simp))
        clear h9 k9 L8 HFE HSE hHeld HK9 HK8
        refine wpAnyH_ready (rs := [5]) (by kernel_rfl) (by simp) ?_
        refine AllReadyH.cons rfl (fun K hK => ?_) AllReadyH.nil
        go_simp
        refine hK.out _ _ hHeld2 (fun _ => ?_)
        clear hK K
        (try simp only [Act.put, List.setIfInBounds_toArray, List.set_cons_zero, List.set_cons_succ])
        refine wpAnyH_ready (rs := [6]) (by kernel_rfl) (by simp) ?_
        refine AllReadyH.cons rfl (fun K hK => ?_) AllReadyH.nil
        go_simp
        refine hK.out _ _ hHeld2 (fun _ => ?_)
        clear hK K
        (try simp only [Act.put, List.setIfInBounds_toArray, List.set_cons_zero, List.set_cons_succ])
        refine wpAnyH_ready (rs := [7]) (by kernel_rfl) (by simp) ?_
        refine AllReadyH.cons rfl (fun K hK => ?_) AllReadyH.nil
        go_simp
        refine hK.out _ _ ⟨(HKA.out _).eye, (HKA.out _).now.2⟩ (fun hHeld4 => ?_)
        clear hK K
        (try simp only [Act.put, List.setIfInBounds_toArray, List.set_cons_zero, List.set_cons_succ])
      case' gy =>
        go_simp
        go_at_call 52
        refine (HK9.out.grew (by exact by repeat (first | with_reducible exact HG.out | with_reducible exact Grew.refl _ | with_reducible assumption | with_reducible apply Grew.plus | with_reducible apply Grew.drewN | with_reducible apply Grew.drew | with_reducible apply Grew.alloc | with_reducible refine Grew.setCell ?_ (by simp [go_sem]; try omega) _))).number 0 1114111 (by decide) (by decide) (fun r v w' h hv hg => ?_) (fun ch q9 V9 h9 k9 => ?_)
        · exact HFE.out r v w' _ (L8.out.trans (bind_no h)) hv hg
        refine hK.out _ _ ⟨k9.eye, k9.now.2⟩ (fun hHeld2 => ?_)
        clear hK K
        (try simp only [Act.put, List.setIfInBounds_toArray, List.set_cons_zero, List.set_cons_succ])
        have hch : IntKind.i32.wrap (ch : Int) = ch := by have := (pNum_le h9).1; rw [IntKind.wrap_i32]; omega
        have L9 := Lib.hid (HSE.out _ _ (L8.out.trans (bind_ok h9)))
        have lA9 := k9.lA
        have HK9b := Lib.hid k9
        have HKA := Lib.hid (fun o => (k9.grew ((Grew.refl V9).alloc o)))
        have HB9 : Hid (∀ o, (V9.alloc o).heap[V9.heap.size]? = some o) := Lib.hid fun o => heap_alloc_at _ _ _ rfl
        obtain ⟨k69, -⟩ := k9.cell 6 _ (pc_get_head 6 (by simp))
        clear h9 k9 L8 HFE HSE hHeld HK9 HK8
        refine wpAnyH_take (i := 5) (v := ?_) rfl (by kernel_rfl) (by kernel_rfl) (by kernel_rfl) (by first | exact fun _ _ _ h => h | exact fun _ _ _ h => HQP _ _ _ _ (by rfl) h) (Or.inl ⟨by rfl, ?_⟩) (by assumption) ?_
        rotate_left 1
        · (intro w hSw; (try dsimp only at hSw); go_simp; (try with_reducible rfl))
        (try simp only [List.getElem_toArray, List.getElem_cons_zero, List.getElem_cons_succ])
        (try simp only [Act.put, List.setIfInBounds_toArray, List.set_cons_zero, List.set_cons_succ])
        refine wpAnyH_take (i := 6) (v := ?_) rfl (by kernel_rfl) (by kernel_rfl) (by kernel_rfl) (by first | exact fun _ _ _ h => h | exact fun _ _ _ h => HQP _ _ _ _ (by rfl) h) (Or.inl ⟨by rfl, ?_⟩) (by assumption) ?_
        rotate_left 1
        · (intro w hSw; (try dsimp only at hSw); go_simp; (try with_reducible rfl))
        (try simp only [List.getElem_toArray, List.getElem_cons_zero, List.getElem_cons_succ])
        (try simp only [Act.put, List.setIfInBounds_toArray, List.set_cons_zero, List.set_cons_succ])
        refine wpAnyH_ready (rs := [1, 7]) (by kernel_rfl) (by simp) ?_
        refine AllReadyH.cons rfl (fun K hK => ?gz) (AllReadyH.cons rfl (fun K hK => ?gw) AllReadyH.nil)
        case' gz =>
          go_simp
          refine hK.out _ _ hHeld2 (fun _ => ?_)
          clear hK K
          (try simp only [Act.put, List.setIfInBounds_toArray, List.set_cons_zero, List.set_cons_succ])
          refine wpAnyH_ready (rs := [7]) (by kernel_rfl) (by simp) ?_
          refine AllReadyH.cons rfl (fun K hK => ?_) AllReadyH.nil
          go_simp
          refine hK.out _ _ ⟨(HKA.out _).eye, (HKA.out _).now.2⟩ (fun hHeld4 => ?_)
          clear hK K
          (try simp only [Act.put, List.setIfInBounds_toArray, List.set_cons_zero, List.set_cons_succ])
        case' gw =>
          go_simp
          refine hK.out _ _ ⟨(HKA.out _).eye, (HKA.out _).now.2⟩ (fun hHeld4 => ?_)
          clear hK K
          (try simp only [Act.put, List.setIfInBounds_toArray, List.set_cons_zero, List.set_cons_succ])
          have k6A := ((HKA.out (.cells #[.int .i64 i0, .int .i64 i1, .int .i64 i2, .int .i32 ch, .int .i64 0] 70)).cell 6 _ (pc_get_head 6 (by simp))).1
          refine wpAnyH_ready (rs := [1]) (by kernel_rfl) (by simp) ?_
          refine AllReadyH.cons rfl (fun K hK => ?_) AllReadyH.nil
          go_simp
          refine hK.out _ _ hHeld4 (fun _ => ?_)
          clear hK K
          (try simp only [Act.put, List.setIfInBounds_toArray, List.set_cons_zero, List.set_cons_succ])
      all_goals
        refine wpAnyH_ready (rs := [8]) (by kernel_rfl) (by simp) ?_
        refine AllReadyH.cons rfl (fun K hK => ?_) AllReadyH.nil
        refine stepApp (by rfl) (.tmp 40) (.tmp 46) 26 (by rfl) elEl D _ k ((xs.map elD).flatMap elRow) (by rfl) (HKA.out _).now.1.2 _ 1 1 #[.int .i64 i0, .int .i64 i1, .int .i64 i2, .int .i32 ch, .int .i64 0] 70 (by rfl) (HB9.out _) (by rfl) (by intro u hu; simp at hu; rcases hu with rfl | rfl | rfl | rfl | rfl <;> rfl) (by omega) (by omega) (by unfold maxLen; omega) w0 (HKA.out _).k.r.g (by have := HK.out.k.r.g.size; have := HDD.out; omega) (by have := (HKA.out (.cells #[.int .i64 i0, .int .i64 i1, .int .i64 i2, .int .i32 ch, .int .i64 0] 70)).now.1.1.size; have := HDD.out; omega) ?_
        intro g c2 w2 hg2 hown2 hkeep2 hsz2 hat2
        obtain ⟨ke2, hx2⟩ := ek_app HK9b.out.k (.cells #[.int .i64 i0, .int .i64 i1, .int .i64 i2, .int .i32 ch, .int .i64 0] 70) HK9b.out.now.1.2 lA lB lR (fun x hx => by have := HK.out.k.r.ab x hx; have := HDD.out; omega) (by have := HK.out.k.g.size; have := HDD.out; omega) ⟨hg2, hkeep2, hsz2⟩
        have hlo : ∀ b ∈ (Value.slice ar k cp).ownBlock.toList, D ≤ b := fun b hb => (HK9b.out.now.1.2.lt b (Option.mem_toList.1 hb)).1
        have hg3 : GrewX [R, A, Z, Y] w w2 := ((HK9b.out.now.1.1.mono (ks' := [R, A, Z, Y] ++ (Value.slice ar k cp).ownBlock.toList) (fun x hx => List.mem_append_left _ hx)).trans (hx2.mono (fun x hx => List.mem_append_right _ hx))).fresh (fun x hx => by
          rcases List.mem_append.1 hx with h | h
          · exact .inl h
          · exact .inr (by have := hlo x h; have := HDD.out; omega))
        have hE9 := HK9b.out.now.2
        have lE9 : E < V9.heap.size := World.cellsAt_lt hE9 (by decide)
        have hEn : E ∉ (Value.slice ar k cp).ownBlock.toList := fun hm => by
          have := (HKE.out.now.1.2.lt E (Option.mem_toList.1 hm)).2
          have := HK8b.out
          omega
        have hE2 : w2.cellsAt ⟨E, 0, none⟩ 3 = some [.int .i64 i0, .int .i64 i1, .int .i64 i2] := by
          rw [World.cellsAt_congr (w := V9) 3 ⟨E, 0, none⟩ (fun o s => World.cell?_of_block (w := V9) (hx2.block E lE9 hEn))]; exact hE9
        have KE2 : EP S w0 R a cap l B A Z Y 41 (fun W => GrewX [R, A, Z, Y] w W ∧ W.ownsRow D 70 5 (.slice (some ⟨g, 0, none⟩) (k + 1) c2) (k + 1) (((xs ++ [(⟨⟨i0, i1, i2⟩, ch⟩ : PEl)]).map elD).flatMap elRow)) Wb w2 q9 (pcells [.int .i64 x1, .int .i64 x2, .int .i64 x3, .int .i64 x4, .int .i64 x5, .int .i64 x6, .slice ar k cp, .slice none 0 0, .slice none 0 0] (rz []) [.slice none 0 0, .slice none 0 0, .bool false, .int .i64 0, .int .i64 0, .int .i64 0, .slice none 0 0]) := ⟨ke2, fun W' hg => ⟨hg3.trans hg, by
          rw [List.map_append, List.flatMap_append]
          exact hown2.grewX hg (fun x hx => by rcases (by simpa using hx : x = R ∨ x = A ∨ x = Z ∨ x = Y) with rfl | rfl | rfl | rfl <;> omega)⟩, HK9b.out.zl⟩
        obtain ⟨kA, mA⟩ := KE2.cell 6 _ (pc_get_head 6 (by simp))
        have lA2 := KE2.lA
        have hEA : A ≠ E := fun e => by have := HK8b.out; have := HKE.out.now.1.1.size; have := HDD.out; have := HKE.out.now.2; omega
        refine hK.out _ _ ⟨KE2.eye, hE2⟩ (fun hHeld3 => ?_)
        have K3 := Lib.hid (KE2.set 6 (.slice (some ⟨g, 0, none⟩) (k + 1) c2) (pc_head 6 (by simp) _))
        have hS3 : (w2.setCell ⟨A, 6, none⟩ (.slice (some ⟨g, 0, none⟩) (k + 1) c2)).cellsAt ⟨B, 0, none⟩ 1 = some [pt R] ∧ (w2.setCell ⟨A, 6, none⟩ (.slice (some ⟨g, 0, none⟩) (k + 1) c2)).cellsAt ⟨E, 0, none⟩ 3 = some [.int .i64 i0, .int .i64 i1, .int .i64 i2] := ⟨KE2.eyeSet _ _, by rw [World.cellsAt_setCell_other _ _ _ _ _ hEA]; exact hE2⟩
        clear KE2 ke2 hx2 hg3 hown2 hkeep2 hsz2 hat2 hE9 hEn hlo hg2 hE2
        clear hK K
        (try simp only [Act.put, List.setIfInBounds_toArray, List.set_cons_zero, List.set_cons_succ])
        refine wpAnyH_ready (rs := [9]) (by kernel_rfl) (by simp) ?_
        refine AllReadyH.cons rfl (fun K hK => ?_) AllReadyH.nil
        go_simp
        refine hK.out _ _ hHeld3 (fun _ => ?_)
        clear hK K
        (try simp only [Act.put, List.setIfInBounds_toArray, List.set_cons_zero, List.set_cons_succ])
        refine wpAnyH_ready (rs := [10]) (by kernel_rfl) (by simp) ?_
        refine AllReadyH.cons rfl (fun K hK => ?_) AllReadyH.nil
        go_simp
        refine hK.out _ _ hS3 (fun _ => ?_)
        clear hK K
        (try simp only [Act.put, List.setIfInBounds_toArray, List.set_cons_zero, List.set_cons_succ])
        refine wpAnyH_done (by kernel_rfl) ?_ _
        have HXL := Lib.hid (show (xs ++ [(⟨⟨i0, i1, i2⟩, ch⟩ : PEl)]).length = k + 1 by simp [hxl])
        clear hHeld3 hS3 kA mA hch
        go_wp2_with fail
        exact ⟨⟨k + 1, xs ++ [(⟨⟨i0, i1, i2⟩, ch⟩ : PEl)], q9, some ⟨g, 0, none⟩, c2, by omega, rfl, HXL.out, L9.out, K3.out⟩, by show n - ((k : Int) + 1).toNat < n - (k : Int).toNat; omega⟩
    · have hkn : k = n := by omega
      subst hkn
      rw [Nat.sub_self, pLoop_zero] at hl
      have HKE := Lib.hid ke
      clear ke
      have HXL := Lib.hid hxl
      clear hxl
      go_wp2_with fail
      refine HOK.out xs q W1 (.slice ar k cp) _ _ _ _ _ _ _ _ _ _ _ _ _ _ _ _ hl.symm (HKE.out.also fun W' hg hF => ?_)
      have hr := hF.2.caps
      exact ⟨ar, cp, by rw [HXL.out], by rw [HXL.out]; exact hr.1, hr.2, hF.2.cin⟩
end
end Go.Proofs.YtnhmekdnfinmiaaGreatDoor
/- Walks: image's eye: parts: the loop over the parcels (printed by wip/gen_k.py). -/
namespace Go.Proofs.YtnhmekdnfinmiaaGreatDoor
open Go.RowKit Go.Par
set_option linter.unusedSimpArgs false
set_option linter.unusedVariables false
theorem elParcel : Elem Tryz.prog 39 75 4 48 := Elem.of Tryz.underlying39 (by kernel_rfl) (by decide)
theorem wText_len {l : List UInt8} {m : Int} {p : Nat} {bs : List UInt8} {q : Nat} (h : wText l m p = .ok (bs, q)) : bs.length ≤ l.length := by
  unfold wText at h
  split at h
  · split at h
    · cases h
    · cases h
      simp; omega
  · cases h
noncomputable def partsLoop2 : Code := (((Tryz.f26.body.map loopsOf).getD [])[1]?).getD .skip
section
variable {S : Nat → Addr} {w0 w Wb : World} {R : Nat} {a : Option Addr} {cap : Nat} {l : List UInt8}
theorem EP.setX {W : World} {B A Z Y : Nat} {t : TypeId} {F G : World → Prop} {q : Nat} {cs : Array Value} (k : EP S w0 R a cap l B A Z Y t F Wb W q cs) {X : Nat} (i : Nat) (v : Value) (hXB : B ≠ X) (hXA : A ≠ X) (hXR : X ≠ R) (h0 : w0.heap.size ≤ X) (hb : Wb.heap.size ≤ X) (hab : ∀ q, a = some q → q.block ≠ X)
    (hG : ∀ W', GrewX [R, A, Z, Y] (W.setCell ⟨X, i, none⟩ v) W' → G W') : EP S w0 R a cap l B A Z Y t G Wb (W.setCell ⟨X, i, none⟩ v) q cs :=
  ⟨⟨k.k.r.set v h0 hXR hab, k.k.g.set (.inr hb) _, by rw [World.block_setCell _ _ _ _ hXB]; exact k.k.e, by rw [World.block_setCell _ _ _ _ hXA]; exact k.k.o, k.k.bR, k.k.aR, k.k.ba, k.k.a0, k.k.af, k.k.ab, k.k.rb⟩, hG, k.zl⟩
theorem bytes_in {W W' : World} {ks : List Nat} {bs : List UInt8} {g c : Nat} {e : TypeId} {fr : Nat × Nat} (hb : W.heap[g]? = some (.cells (bytesRow ⟨bs.toArray⟩ c) e fr)) (hg : GrewX ks W W') (hk : g ∉ ks) : CellsIn W' (some ⟨g, 0, none⟩) (bv bs) := by
  have hb := hg.heap hb hk
  intro hx
  refine ⟨g, 0, rfl, World.cellsAt_of rfl (fun i hi => ?_)⟩
  rw [Nat.zero_add, cell_of_row W' g i _ _ _ hb]
  have hi2 : i < bs.length := by simpa [bv] using hi
  rw [bytesRow_at _ _ _ (by simpa using hi2)]
  simp [bv, hi2]
set_option maxRecDepth 1000000 in
set_option maxHeartbeats 2000000 in
theorem out_loop {Q : Exit → Act → World → Prop} {B A Z Y n q7 : Nat} {F : World → Prop} (x1 x2 x3 x4 self x6 : Nat) (zs : List Nat) (vb va vh vd vu vf ve vr vn : Value) (c0 c3 c4 c5 c6 c7 c8 c9 c10 c11 c12 c13 c14 c15 c16 c17 c18 c19 c20 c21 c22 c23 c24 c25 c26 c27 c28 c29 c30 c31 c32 c33 c34 c35 c36 c37 c38 c39 c40 c41 c42 c43 c44 c45 c46 c47 c48 c49 c50 c51 c52 c53 c54 c55 c56 c57 c58 c59 c60 c61 c62 c63 c64 c65 c66 c67 c68 c69 c70 c71 c72 c73 c74 c75 c76 c77 c78 c81 c82 c83 c84 c85 c86 c87 c88 c89 c90 c91 c92 c93 c94 c95 c96 c97 c98 c99 c100 c101 c102 c103 c104 c105 c106 c107 c108 c109 c110 c111 c112 c113 c114 c115 c116 c117 : Value)
    (HZ : Hid (zs.length = 144))
    (k0 : EP S w0 R a cap l B A Z Y 41 F Wb w q7 (pcells [.int .i64 x1, .int .i64 x2, .int .i64 x3, .int .i64 x4, .int .i64 self, .int .i64 x6, vb, va, vh] zs [vd, vu, vf, ve, vr, vn, .slice none 0 0])) (hn : n ≤ 2147483647)
    (HQP : ∀ c (a a' : Act) w, a.defers = a'.defers → Q (.panic c) a w → Q (.panic c) a' w)
    (hno : ∀ r v w' tm, pLoop (outB l) n 0 [] q7 = .error r → WhyAt S w' r v → GrewX [R] Wb w' → Q (.panic [{ v := istop (placeOf r) v, recovered := false }]) ⟨tm, []⟩ w')
    (hok : ∀ (xs : List POut) (q' : Nat) (w' : World) (v : Value) u4 u5 u6 u7 u80 u81 u82 u83 u84 u85 u86 u87 u88 u89 u90 u91 u92 u93 u94 u95 u96 u97 u98 u99 u100 u101 u102 u103 u104 u105 u106 u107 u108, pLoop (outB l) n 0 [] q7 = .ok (xs, q') → EP S w0 R a cap l B A Z Y 41 (fun W => F W ∧ OutsIn W v self xs) Wb w' q' (pcells [.int .i64 x1, .int .i64 x2, .int .i64 x3, .int .i64 x4, .int .i64 self, .int .i64 x6, vb, va, vh] zs [vd, vu, vf, ve, vr, vn, v]) → Q (.exit 2) ⟨(c0 :: pt B :: pt A :: c3 :: u4 :: u5 :: u6 :: u7 :: c8 :: c9 :: c10 :: c11 :: c12 :: c13 :: c14 :: c15 :: c16 :: c17 :: c18 :: c19 :: c20 :: c21 :: c22 :: c23 :: c24 :: c25 :: c26 :: c27 :: c28 :: c29 :: c30 :: c31 :: c32 :: c33 :: c34 :: c35 :: c36 :: c37 :: c38 :: c39 :: c40 :: c41 :: c42 :: c43 :: c44 :: c45 :: c46 :: c47 :: c48 :: c49 :: c50 :: c51 :: c52 :: c53 :: c54 :: c55 :: c56 :: c57 :: c58 :: c59 :: c60 :: c61 :: c62 :: c63 :: c64 :: c65 :: c66 :: c67 :: c68 :: c69 :: c70 :: c71 :: c72 :: c73 :: c74 :: c75 :: c76 :: c77 :: c78 :: .int .i64 n :: u80 :: u81 :: u82 :: u83 :: u84 :: u85 :: u86 :: u87 :: u88 :: u89 :: u90 :: u91 :: u92 :: u93 :: u94 :: u95 :: u96 :: u97 :: u98 :: u99 :: u100 :: u101 :: u102 :: u103 :: u104 :: u105 :: u106 :: u107 :: u108 :: c109 :: c110 :: c111 :: c112 :: c113 :: c114 :: c115 :: c116 :: c117 :: []).toArray, []⟩ w') :
    Code.wp Tryz.prog (.loop partsLoop2) Q ⟨(c0 :: pt B :: pt A :: c3 :: c4 :: c5 :: c6 :: c7 :: c8 :: c9 :: c10 :: c11 :: c12 :: c13 :: c14 :: c15 :: c16 :: c17 :: c18 :: c19 :: c20 :: c21 :: c22 :: c23 :: c24 :: c25 :: c26 :: c27 :: c28 :: c29 :: c30 :: c31 :: c32 :: c33 :: c34 :: c35 :: c36 :: c37 :: c38 :: c39 :: c40 :: c41 :: c42 :: c43 :: c44 :: c45 :: c46 :: c47 :: c48 :: c49 :: c50 :: c51 :: c52 :: c53 :: c54 :: c55 :: c56 :: c57 :: c58 :: c59 :: c60 :: c61 :: c62 :: c63 :: c64 :: c65 :: c66 :: c67 :: c68 :: c69 :: c70 :: c71 :: c72 :: c73 :: c74 :: c75 :: c76 :: c77 :: c78 :: .int .i64 n :: .int .i64 0 :: c81 :: c82 :: c83 :: c84 :: c85 :: c86 :: c87 :: c88 :: c89 :: c90 :: c91 :: c92 :: c93 :: c94 :: c95 :: c96 :: c97 :: c98 :: c99 :: c100 :: c101 :: c102 :: c103 :: c104 :: c105 :: c106 :: c107 :: c108 :: c109 :: c110 :: c111 :: c112 :: c113 :: c114 :: c115 :: c116 :: c117 :: []).toArray, []⟩ w := by
  conv => arg 2; arg 1; whnf
  have HNO := Lib.hid hno
  have HOK := Lib.hid hok
  have HK := Lib.hid k0
  have lR := k0.k.r.lt
  have lA := k0.lA
  have lZ : Z < w.heap.size ∧ Y < w.heap.size := ⟨Nat.lt_of_lt_of_le k0.zl.1 k0.k.g.size, Nat.lt_of_lt_of_le k0.zl.2 k0.k.g.size⟩
  have lB := (Array.getElem?_eq_some_iff.1 k0.k.e).1
  clear hno hok k0
  generalize hDD : w.heap.size = D at *
  have HDD := Lib.hid hDD
  clear hDD
  go_loopw [80] (fun i wr => ∃ (k : Nat) (xs : List POut) (q : Nat) (ar : Option Addr) (cp : Nat) (os : List OV), k ≤ n ∧ i = .int .i64 k ∧ xs.length = k ∧ pLoop (outB l) (n - k) k xs q = pLoop (outB l) n 0 [] q7 ∧ os.map (fun o => (⟨o.dst, o.bytes⟩ : POut)) = xs ∧ EP S w0 R a cap l B A Z Y 41 (fun W => GrewX [R, A, Z, Y] w W ∧ W.ownsRow D 75 4 (.slice ar k cp) k (os.flatMap (ovRow self)) ∧ OvsIn W D (Value.slice ar k cp).ownBlock os) Wb wr q (pcells [.int .i64 x1, .int .i64 x2, .int .i64 x3, .int .i64 x4, .int .i64 self, .int .i64 x6, vb, va, vh] zs [vd, vu, vf, ve, vr, vn, .slice ar k cp])) (fun i _ => n - (intOf i).toNat)
  case atStart => exact ⟨0, [], q7, none, 0, [], by omega, rfl, rfl, rfl, rfl, HK.out.also fun W' h' _ => ⟨h', ⟨rfl, .inl ⟨rfl, rfl⟩⟩, fun o ho => by cases ho⟩⟩
  case round =>
    obtain ⟨W1, hW1⟩ : ∃ W1, W1 = wr := ⟨_, rfl⟩
    subst hW1
    obtain ⟨k, xs, q, ar, cp, os, hk, rfl, hxl, hl, hos, ke⟩ := hrel
    by_cases hlt : k < n
    · have ce := ke.eye
      have HFE : Hid (∀ r v w' tm, pOut1 l q = .error r → WhyAt S w' r v → GrewX [R] Wb w' → Q (.panic [{ v := istop (placeOf r) v, recovered := false }]) ⟨tm, []⟩ w') := Lib.hid fun r v w' tm h hv hg2 => HNO.out r v w' tm (by rw [← hl, show n - k = (n - k - 1) + 1 by omega, pLoop_no (show outB l k xs q = _ from bind_no h)]) hv hg2
      have HSE : Hid (∀ x q', pOut1 l q = .ok (x, q') → pLoop (outB l) (n - (k + 1)) (k + 1) (xs ++ [x]) q' = pLoop (outB l) n 0 [] q7) := Lib.hid fun x q' h => by rw [← hl, show n - k = (n - (k + 1)) + 1 by omega]; exact (pLoop_ok (show outB l k xs q = _ from bind_ok h)).symm
      have HOS := Lib.hid hos
      have HXL := Lib.hid hxl
      have HRW := Lib.hid ke.now
      have HKE := Lib.hid (ke.also (G := fun W => GrewX [R, A, Z, Y] W1 W) fun W' hg hF => hg)
      have hs1 : D ≤ W1.heap.size := by have := ke.now.1.size; have := HDD.out; omega
      have hw0 := ke.k.r.g.size
      have hwb := ke.k.g.size
      have Hab := Lib.hid (show ∀ x, a = some x → x.block < D from fun x hx => by have := HK.out.k.r.ab x hx; have := HDD.out; omega)
      clear ke hl hos hxl
      go_wp2_with fail
      have lB1 := (Array.getElem?_eq_some_iff.1 HKE.out.k.e).1
      refine wp_region_held_drew (S := fun w' => w'.cellsAt ⟨B, 0, none⟩ 1 = some [pt R] ∧ w'.cell? ⟨A, 4, none⟩ = some (.int .i64 self)) (by kernel_rfl) ⟨(HKE.out.grew (by repeat (first | with_reducible exact HG.out | with_reducible exact Grew.refl _ | with_reducible assumption | with_reducible apply Grew.plus | with_reducible apply Grew.drewN | with_reducible apply Grew.drew | with_reducible apply Grew.alloc | with_reducible refine Grew.setCell ?_ (by simp [go_sem]; try omega) _))).eye, ((HKE.out.grew (by exact by repeat (first | with_reducible exact HG.out | with_reducible exact Grew.refl _ | with_reducible assumption | with_reducible apply Grew.plus | with_reducible apply Grew.drewN | with_reducible apply Grew.drew | with_reducible apply Grew.alloc | with_reducible refine Grew.setCell ?_ (by simp [go_sem]; try omega) _))).cell 4 _ (pc_get_head 4 (by simp))).1⟩ (fun hHeld => ?_)
      refine wpAnyH_take (i := 0) (v := ?_) rfl (by kernel_rfl) (by kernel_rfl) (by kernel_rfl) (by first | exact fun _ _ _ h => h | exact fun _ _ _ h => HQP _ _ _ _ (by rfl) h) (Or.inl ⟨by rfl, ?_⟩) (by assumption) ?_
      rotate_left 1
      · (intro w hSw; (try dsimp only at hSw); go_simp; (try with_reducible rfl))
      (try simp only [List.getElem_toArray, List.getElem_cons_zero, List.getElem_cons_succ])
      (try simp only [Act.put, List.setIfInBounds_toArray, List.set_cons_zero, List.set_cons_succ])
      refine wpAnyH_take (i := 1) (v := ?_) rfl (by kernel_rfl) (by kernel_rfl) (by kernel_rfl) (by first | exact fun _ _ _ h => h | exact fun _ _ _ h => HQP _ _ _ _ (by rfl) h) (Or.inl ⟨by rfl, ?_⟩) (by assumption) ?_
      rotate_left 1
      · (intro w hSw; (try dsimp only at hSw); go_simp; (try with_reducible rfl))
      (try simp only [List.getElem_toArray, List.getElem_cons_zero, List.getElem_cons_succ])
      (try simp only [Act.put, List.setIfInBounds_toArray, List.set_cons_zero, List.set_cons_succ])
      refine wpAnyH_take (i := 2) (v := ?_) rfl (by kernel_rfl) (by kernel_rfl) (by kernel_rfl) (by first | exact fun _ _ _ h => h | exact fun _ _ _ h => HQP _ _ _ _ (by rfl) h) (Or.inl ⟨by rfl, ?_⟩) (by assumption) ?_
      rotate_left 1
      · (intro w hSw; (try dsimp only at hSw); go_simp; (try with_reducible rfl))
      (try simp only [List.getElem_toArray, List.getElem_cons_zero, List.getElem_cons_succ])
      (try simp only [Act.put, List.setIfInBounds_toArray, List.set_cons_zero, List.set_cons_succ])
      refine wpAnyH_ready (rs := [3, 5]) (by kernel_rfl) (by simp) ?_
      refine AllReadyH.cons rfl (fun K hK => ?gx) (AllReadyH.cons rfl (fun K hK => ?gy) AllReadyH.nil)
      case' gx =>
        go_simp
        go_at_call 52
        refine (HKE.out.grew (by exact by repeat (first | with_reducible exact HG.out | with_reducible exact Grew.refl _ | with_reducible assumption | with_reducible apply Grew.plus | with_reducible apply Grew.drewN | with_reducible apply Grew.drew | with_reducible apply Grew.alloc | with_reducible refine Grew.setCell ?_ (by simp [go_sem]; try omega) _))).number 0 9223372036854775807 (by decide) (by decide) (fun r v w' h hv hg => ?_) (fun dst q9 V9 h9 k9 => ?_)
        · exact HFE.out r v w' _ (bind_no h) hv hg
        refine hK.out _ _ ⟨k9.eye, (k9.cell 4 _ (pc_get_head 4 (by simp))).1⟩ (fun hHeld2 => ?_)
        clear hK K
        (try simp only [Act.put, List.setIfInBounds_toArray, List.set_cons_zero, List.set_cons_succ])
        have L9 := Lib.hid (show pOut1 l q = _ from bind_ok h9)
        have lA9 := k9.lA
        have HK9b := Lib.hid k9
        have HKA := Lib.hid (fun o => (k9.grew ((Grew.refl V9).alloc o)))
        refine wpAnyH_take (i := 4) (v := ?_) rfl (by kernel_rfl) (by kernel_rfl) (by kernel_rfl) (by first | exact fun _ _ _ h => h | exact fun _ _ _ h => HQP _ _ _ _ (by rfl) h) (Or.inl ⟨by rfl, ?_⟩) (by assumption) ?_
        rotate_left 1
        · (intro w hSw; (try dsimp only at hSw); go_simp; (try with_reducible rfl))
        (try simp only [List.getElem_toArray, List.getElem_cons_zero, List.getElem_cons_succ])
        (try simp only [Act.put, List.setIfInBounds_toArray, List.set_cons_zero, List.set_cons_succ])
        refine wpAnyH_ready (rs := [5]) (by kernel_rfl) (by simp) ?_
        refine AllReadyH.cons rfl (fun K hK => ?_) AllReadyH.nil
        go_simp
        refine hK.out _ _ ⟨(HKA.out _).eye, ((HKA.out _).cell 4 _ (pc_get_head 4 (by simp))).1⟩ (fun hHeld4 => ?_)
        clear hK K
        (try simp only [Act.put, List.setIfInBounds_toArray, List.set_cons_zero, List.set_cons_succ])
        refine wpAnyH_ready (rs := [6]) (by kernel_rfl) (by simp) ?_
        refine AllReadyH.cons rfl (fun K hK => ?_) AllReadyH.nil
        go_simp
        have hX5 : (V9.alloc (.cells #[.int .i64 0, .int .i64 self, .int .i64 dst, .slice none 0 0] 75)).heap[V9.heap.size]? = some (.cells #[.int .i64 0, .int .i64 self, .int .i64 dst, .slice none 0 0] 75 (0, 0)) := heap_alloc_at _ _ _ rfl
        have k5 := HKA.out (.cells #[.int .i64 0, .int .i64 self, .int .i64 dst, .slice none 0 0] 75)
        have hX1 : W1.heap.size ≤ V9.heap.size := HK9b.out.now.size
        have hS5 := And.intro k5.eye (k5.cell 4 _ (pc_get_head 4 (by simp))).1
        have HX5 := Lib.hid hX5
        have K5 := Lib.hid k5
        clear hX5 k5 h9 k9 HK9b HKA hHeld hHeld2 hHeld4
        refine hK.out _ _ hS5 (fun _ => ?_)
        clear hK K
        (try simp only [Act.put, List.setIfInBounds_toArray, List.set_cons_zero, List.set_cons_succ])
        clear hS5
        generalize (V9.alloc (.cells #[.int .i64 0, .int .i64 self, .int .i64 dst, .slice none 0 0] 75)) = W5 at *
        generalize V9.heap.size = X at *
      case' gy =>
        have HKA0 := Lib.hid (fun o => (HKE.out.grew (((Grew.refl W1).drew).alloc o)))
        go_simp
        refine hK.out _ _ ⟨(HKA0.out _).eye, ((HKA0.out _).cell 4 _ (pc_get_head 4 (by simp))).1⟩ (fun hHeld4 => ?_)
        clear hK K
        (try simp only [Act.put, List.setIfInBounds_toArray, List.set_cons_zero, List.set_cons_succ])
        refine wpAnyH_ready (rs := [3]) (by kernel_rfl) (by simp) ?_
        refine AllReadyH.cons rfl (fun K hK => ?_) AllReadyH.nil
        go_simp
        go_at_call 52
        have hX0 : (W1.alloc (.cells #[.int .i64 0, .int .i64 0, .int .i64 0, .slice none 0 0] 75)).drew.heap[W1.heap.size]? = some (.cells #[.int .i64 0, .int .i64 0, .int .i64 0, .slice none 0 0] 75 (0, 0)) := by rw [heap_drew0]; exact heap_alloc_at _ _ _ rfl
        have hXR : W1.heap.size ≠ R := by omega
        have hXA : A ≠ W1.heap.size := by omega
        have hXB : B ≠ W1.heap.size := by omega
        have k1 := (HKE.out.grew (((Grew.refl W1).alloc (.cells #[.int .i64 0, .int .i64 0, .int .i64 0, .slice none 0 0] 75)).drew)).also (G := fun W => GrewX [R, A, Z, Y] W1 W ∧ W.heap[W1.heap.size]? = some (.cells #[.int .i64 0, .int .i64 0, .int .i64 0, .slice none 0 0] 75 (0, 0))) fun W' hg hF => ⟨hF, hg.heap hX0 (by simp; omega)⟩
        refine k1.number 0 9223372036854775807 (by decide) (by decide) (fun r v w' h hv hg => ?_) (fun dst q9 V9 h9 k9 => ?_)
        · exact HFE.out r v w' _ (bind_no h) hv hg
        refine hK.out _ _ ⟨k9.eye, (k9.cell 4 _ (pc_get_head 4 (by simp))).1⟩ (fun hHeld2 => ?_)
        clear hK K
        (try simp only [Act.put, List.setIfInBounds_toArray, List.set_cons_zero, List.set_cons_succ])
        have L9 := Lib.hid (show pOut1 l q = _ from bind_ok h9)
        have lA9 := k9.lA
        generalize hXX : W1.heap.size = X at *
        have hX9 := k9.now.2
        obtain ⟨y0, z0⟩ := World.own_cell hX9 0 _ rfl
        obtain ⟨y1, z1⟩ := World.own_cell hX9 1 _ rfl
        obtain ⟨y2, z2⟩ := World.own_cell hX9 2 _ rfl
        obtain ⟨y3, z3⟩ := World.own_cell hX9 3 _ rfl
        have lX9 : X < V9.heap.size := World.block_lt_of_cell? V9 _ y0
        have k5a := k9.setX (G := fun W => GrewX [R, A, Z, Y] W1 W) 0 (.int .i64 0) hXB hXA hXR (by omega) (by omega) (fun x hx => by have := Hab.out x hx; omega) (fun W' hg => (k9.now.1.set (.inr (by simp; omega)) _).trans hg)
        have k5b := k5a.setX (G := fun W => GrewX [R, A, Z, Y] W1 W) 1 (.int .i64 self) hXB hXA hXR (by omega) (by omega) (fun x hx => by have := Hab.out x hx; omega) (fun W' hg => (k5a.now.set (.inr (by simp; omega)) _).trans hg)
        have k5c := k5b.setX (G := fun W => GrewX [R, A, Z, Y] W1 W) 2 (.int .i64 dst) hXB hXA hXR (by omega) (by omega) (fun x hx => by have := Hab.out x hx; omega) (fun W' hg => (k5b.now.set (.inr (by simp; omega)) _).trans hg)
        have k5 := k5c.setX (G := fun W => GrewX [R, A, Z, Y] W1 W) 3 (.slice none 0 0) hXB hXA hXR (by omega) (by omega) (fun x hx => by have := Hab.out x hx; omega) (fun W' hg => (k5c.now.set (.inr (by simp; omega)) _).trans hg)
        have hX5 : ((((V9.setCell ⟨X, 0, none⟩ (.int .i64 0)).setCell ⟨X, 1, none⟩ (.int .i64 self)).setCell ⟨X, 2, none⟩ (.int .i64 dst)).setCell ⟨X, 3, none⟩ (.slice none 0 0)).heap[X]? = some (.cells #[.int .i64 0, .int .i64 self, .int .i64 dst, .slice none 0 0] 75 (0, 0)) := World.own_setCell (World.own_setCell (World.own_setCell (World.own_setCell hX9 _) _) _) _
        have hX1 : W1.heap.size ≤ X := by omega
        have hS5 := And.intro k5.eye (k5.cell 4 _ (pc_get_head 4 (by simp))).1
        have HX5 := Lib.hid hX5
        have K5 := Lib.hid k5
        have HXX := Lib.hid hXX
        clear hX5 k5 h9 k9 hHeld hHeld4 k5a k5b k5c hX9 hXX k1
        refine wpAnyH_ready (rs := [4]) (by kernel_rfl) (by simp) ?_
        refine AllReadyH.cons rfl (fun K hK => ?_) AllReadyH.nil
        go_simp
        refine hK.out _ _ hHeld2 (fun hHeld6 => ?_)
        clear hK K
        (try simp only [Act.put, List.setIfInBounds_toArray, List.set_cons_zero, List.set_cons_succ])
        refine wpAnyH_ready (rs := [6]) (by kernel_rfl) (by simp) ?_
        refine AllReadyH.cons rfl (fun K hK => ?_) AllReadyH.nil
        go_simp
        refine hK.out _ _ hS5 (fun _ => ?_)
        clear hK K
        (try simp only [Act.put, List.setIfInBounds_toArray, List.set_cons_zero, List.set_cons_succ])
        clear hS5 hHeld2 hHeld6 y0 z0 y1 z1 y2 z2 y3 z3 lX9
        generalize ((((V9.setCell ⟨X, 0, none⟩ (.int .i64 0)).setCell ⟨X, 1, none⟩ (.int .i64 self)).setCell ⟨X, 2, none⟩ (.int .i64 dst)).setCell ⟨X, 3, none⟩ (.slice none 0 0)) = W5 at *
      all_goals
        refine wpAnyH_done (by kernel_rfl) ?_ _
        have eB := (World.own_cell K5.out.k.e 0 _ rfl).1
        simp only [List.getElem_toArray, List.getElem_cons_zero] at eB
        go_wp2_with fail
        refine K5.out.at_ ?_
        go_wp2_with fail
        have hXR : X ≠ R := by omega
        have hXA : A ≠ X := by omega
        have hXB : B ≠ X := by omega
        refine (K5.out.also (G := fun W => GrewX [R, A, Z, Y] W1 W ∧ W.heap[X]? = some (.cells #[.int .i64 0, .int .i64 self, .int .i64 dst, .slice none 0 0] 75 (0, 0))) fun W' hg hF => ⟨hF, hg.heap HX5.out (by simp; omega)⟩).text (fun r t z w' h hv hpl hg => ?_) (fun bs q6 V6 h6 k6 => ?_)
        · go_wp2_with (go_at_call 60; refine (must_err _ _ _ _).mono ?_; rintro e w' ⟨rfl, rfl⟩)
          rw [← hpl]
          exact HFE.out r _ _ _ (L9.out.trans (bind_no h)) hv hg
        have L6 := Lib.hid (HSE.out _ _ (L9.out.trans (bind_ok h6)))
        have lbs := Lib.hid (wText_len h6)
        obtain ⟨y3, z3⟩ := World.own_cell k6.now.2 3 _ rfl
        obtain ⟨u6, m6⟩ := k6.cell 159 _ (pc_get_tail rfl HZ.out 6 (by simp))
        have lA6 := k6.lA
        have lX6 := World.block_lt_of_cell? V6 _ y3
        have HK6 := Lib.hid k6
        clear h6 k6 L9 eB
        have hcv : ∀ W, (convert 9 22 (.string ⟨bs.toArray⟩)).run Tryz.prog W = .ok (.slice (some ⟨W.heap.size, 0, none⟩) bs.length (grownCap W bs.length 0 5)) (W.drew.alloc (.cells (bytesRow ⟨bs.toArray⟩ (grownCap W bs.length 0 5)) 5 ((bytesRow ⟨bs.toArray⟩ (grownCap W bs.length 0 5)).size, (bytesRow ⟨bs.toArray⟩ (grownCap W bs.length 0 5)).size + 1))) := fun W => by
          have := run_bytes_of_string W 9 22 5 ⟨bs.toArray⟩ Tryz.underlying9 Tryz.underlying22 Tryz.underlying5
          exact this
        go_upto_region 28 with (go_at_call 60; refine (must_nil _ _).mono ?_; rintro e w' ⟨rfl, rfl⟩)
        clear hcv
        have hX7 : ((V6.setCell ⟨X, 3, none⟩ (.slice (some ⟨V6.heap.size, 0, none⟩) bs.length (grownCap V6 bs.length 0 5))).alloc (.cells (bytesRow ⟨bs.toArray⟩ (grownCap V6 bs.length 0 5)) 5 ((bytesRow ⟨bs.toArray⟩ (grownCap V6 bs.length 0 5)).size, (bytesRow ⟨bs.toArray⟩ (grownCap V6 bs.length 0 5)).size + 1))).drew.heap[X]? = some (.cells #[.int .i64 0, .int .i64 self, .int .i64 dst, .slice (some ⟨V6.heap.size, 0, none⟩) bs.length (grownCap V6 bs.length 0 5)] 75 (0, 0)) := by
          rw [heap_drew0, heap_alloc_past _ _ _ (by simpa [go_sem] using lX6)]; exact World.own_setCell HK6.out.now.2 _
        have hG7 : ((V6.setCell ⟨X, 3, none⟩ (.slice (some ⟨V6.heap.size, 0, none⟩) bs.length (grownCap V6 bs.length 0 5))).alloc (.cells (bytesRow ⟨bs.toArray⟩ (grownCap V6 bs.length 0 5)) 5 ((bytesRow ⟨bs.toArray⟩ (grownCap V6 bs.length 0 5)).size, (bytesRow ⟨bs.toArray⟩ (grownCap V6 bs.length 0 5)).size + 1))).drew.heap[V6.heap.size]? = some (.cells (bytesRow ⟨bs.toArray⟩ (grownCap V6 bs.length 0 5)) 5 ((bytesRow ⟨bs.toArray⟩ (grownCap V6 bs.length 0 5)).size, (bytesRow ⟨bs.toArray⟩ (grownCap V6 bs.length 0 5)).size + 1)) := by
          rw [heap_drew0]; exact heap_alloc_at _ _ _ (by simp [go_sem])
        have hge7 := grownCap_ge V6 bs.length 0 5
        have hle7 := grownCap_le_maxLen V6 bs.length 0 5 (by have := HKE.out.k.r.r.len; have := lbs.out; unfold maxLen; omega)
        have h61 : W1.heap.size ≤ V6.heap.size := HK6.out.now.1.size
        have k7 := ((HK6.out.setX (G := fun W => GrewX [R, A, Z, Y] W1 W) 3 (.slice (some ⟨V6.heap.size, 0, none⟩) bs.length (grownCap V6 bs.length 0 5)) hXB hXA hXR (by omega) (by omega) (fun x hx => by have := Hab.out x hx; omega) (fun W' hg => (HK6.out.now.1.set (.inr (by simp; omega)) _).trans hg)).grew (((Grew.refl _).alloc (.cells (bytesRow ⟨bs.toArray⟩ (grownCap V6 bs.length 0 5)) 5 ((bytesRow ⟨bs.toArray⟩ (grownCap V6 bs.length 0 5)).size, (bytesRow ⟨bs.toArray⟩ (grownCap V6 bs.length 0 5)).size + 1))).drew)).also (G := fun W => GrewX [R, A, Z, Y] W1 W ∧ CellsIn W (some ⟨V6.heap.size, 0, none⟩) (bv bs)) fun W' hg hF => ⟨hF, bytes_in hG7 hg (by simp; omega)⟩
        have hs7 : V6.heap.size < ((V6.setCell ⟨X, 3, none⟩ (.slice (some ⟨V6.heap.size, 0, none⟩) bs.length (grownCap V6 bs.length 0 5))).alloc (.cells (bytesRow ⟨bs.toArray⟩ (grownCap V6 bs.length 0 5)) 5 ((bytesRow ⟨bs.toArray⟩ (grownCap V6 bs.length 0 5)).size, (bytesRow ⟨bs.toArray⟩ (grownCap V6 bs.length 0 5)).size + 1))).drew.heap.size := (Array.getElem?_eq_some_iff.1 hG7).1
        generalize ((V6.setCell ⟨X, 3, none⟩ (.slice (some ⟨V6.heap.size, 0, none⟩) bs.length (grownCap V6 bs.length 0 5))).alloc (.cells (bytesRow ⟨bs.toArray⟩ (grownCap V6 bs.length 0 5)) 5 ((bytesRow ⟨bs.toArray⟩ (grownCap V6 bs.length 0 5)).size, (bytesRow ⟨bs.toArray⟩ (grownCap V6 bs.length 0 5)).size + 1))).drew = W7 at *
        generalize V6.heap.size = g7 at *
        generalize grownCap V6 bs.length 0 5 = c7 at *
        obtain ⟨u7, m7⟩ := k7.cell 159 _ (pc_get_tail rfl HZ.out 6 (by simp))
        have x7 : W7.cellsAt ⟨X, 0, none⟩ 4 = some [.int .i64 0, .int .i64 self, .int .i64 dst, .slice (some ⟨g7, 0, none⟩) bs.length c7] := World.cellsAt_block hX7 4 rfl
        have lA7 := k7.lA
        have lX7 := World.cellsAt_lt x7 (by decide)
        have HK7 := Lib.hid k7
        have HROW : Hid (W7.ownsRow D 75 4 (.slice ar k cp) k (os.flatMap (ovRow self))) := Lib.hid (HRW.out.2.1.grewX k7.now.1 (fun x hx => by rcases (by simpa using hx : x = R ∨ x = A ∨ x = Z ∨ x = Y) with rfl | rfl | rfl | rfl <;> omega))
        have HX7 := Lib.hid hX7
        simp only [List.getElem_cons_zero, List.getElem_cons_succ] at u7
        clear k7 hX7 hG7 y3 z3 u6 m6 lA6 lX6 HK6 HX5 K5
        go_wp2_with (at_builtin; go_loud (refine wpList_app (by rfl) (.tmp 103) (.tmp 105) 39 (by rfl) elParcel D _ k (os.flatMap (ovRow self)) (by rfl) (HROW.out.grew (by exact by repeat (first | with_reducible exact HG.out | with_reducible exact Grew.refl _ | with_reducible assumption | with_reducible apply Grew.plus | with_reducible apply Grew.drewN | with_reducible apply Grew.drew | with_reducible apply Grew.alloc | with_reducible refine Grew.setCell ?_ (by simp [go_sem]; try omega) _))) _ 1 1 #[.int .i64 0, .int .i64 self, .int .i64 dst, .slice (some ⟨g7, 0, none⟩) bs.length c7] 75 (by rfl) (heap_alloc_at _ _ _ rfl) (by rfl) (by intro u hu; simp at hu; rcases hu with rfl | rfl | rfl | rfl <;> rfl) (by omega) (by omega) (by unfold maxLen; omega) w0 (HK7.out.k.r.g.trans (by exact by repeat (first | with_reducible exact HG.out | with_reducible exact Grew.refl _ | with_reducible assumption | with_reducible apply Grew.plus | with_reducible apply Grew.drewN | with_reducible apply Grew.drew | with_reducible apply Grew.alloc | with_reducible refine Grew.setCell ?_ (by simp [go_sem]; try omega) _))) (by have := HK.out.k.r.g.size; have := HDD.out; omega) (by rw [alloc_size1]; omega) ?_); intro g c2 w2 hg2 hown2 hkeep2 hsz2 hat2; obtain ⟨ke2, hx2⟩ := ek_app HK7.out.k (.cells #[.int .i64 0, .int .i64 self, .int .i64 dst, .slice (some ⟨g7, 0, none⟩) bs.length c7] 75) HROW.out lA lB lR Hab.out (by have := HK.out.k.g.size; have := HDD.out; omega) ⟨hg2, hkeep2, hsz2⟩; obtain ⟨u8, m8⟩ := ke2.cell 159 _ (pc_get_tail rfl HZ.out 6 (by simp)); have lA8 := ke2.lA; have HO2 := Lib.hid hown2; have HE2 := Lib.hid ke2; have HG2 := Lib.hid (And.intro hx2 hat2); clear hown2 hg2 hkeep2 hat2 hsz2 ke2 hx2 u7 m7 x7)
        have hg7a := HK7.out.now
        have hlt1 : ∀ b ∈ (Value.slice ar k cp).ownBlock.toList, D ≤ b ∧ b < W1.heap.size := fun b hb => HRW.out.2.1.lt b (Option.mem_toList.1 hb)
        have hgW : GrewX ([R, A, Z, Y] ++ (Value.slice ar k cp).ownBlock.toList) W1 w2 := (hg7a.1.mono (fun x hx => List.mem_append_left _ hx)).trans (HG2.out.1.mono (fun x hx => List.mem_append_right _ hx))
        have hgw : GrewX [R, A, Z, Y] w w2 := ((HRW.out.1.mono (ks' := [R, A, Z, Y] ++ (Value.slice ar k cp).ownBlock.toList) (fun x hx => List.mem_append_left _ hx)).trans hgW).fresh (fun x hx => by
          rcases List.mem_append.1 hx with h | h
          · exact .inl h
          · exact .inr (by have := (hlt1 x h).1; have := HDD.out; omega))
        have hat : (Value.slice ar k cp).ownBlock = some g ∨ W7.heap.size < g := by
          rcases HG2.out.2 with h | h
          · exact .inl h
          · right; rw [alloc_size1] at h; omega
        have hgg : ∀ b, b < W7.heap.size → some b ≠ (Value.slice ar k cp).ownBlock → some b ≠ (Value.slice (some ⟨g, 0, none⟩) (k + 1) c2).ownBlock := fun b hb hn e => by
          simp only [Value.ownBlock, Option.some.injEq] at e
          rcases hat with h | h
          · exact hn (by rw [h, e])
          · omega
        have hw17 := hg7a.1.size
        have hov : OvsIn w2 D (Value.slice (some ⟨g, 0, none⟩) (k + 1) c2).ownBlock (os ++ [⟨dst, bs, some ⟨g7, 0, none⟩, c7⟩]) := fun o ho => by
          rcases List.mem_append.1 ho with h | h
          · exact (HRW.out.2.2.grewX hgW (fun x hx => by
              rcases List.mem_append.1 hx with h | h
              · left; rcases (by simpa using h : x = R ∨ x = A ∨ x = Z ∨ x = Y) with rfl | rfl | rfl | rfl <;> omega
              · exact .inr (Option.mem_toList.1 h).symm) (fun b _ hb hn => hgg b (by omega) hn)) o h
          · obtain rfl := List.mem_singleton.1 h
            have hn7 : ∀ b ∈ (Value.slice ar k cp).ownBlock.toList, b ≠ g7 := fun b hb e => by have := (hlt1 b hb).2; omega
            refine ⟨hge7, by unfold maxLen at hle7; omega, HG2.out.1.cells hg7a.2 (fun x hx hm => ?_), fun b hb => ?_⟩
            · cases hx; exact hn7 _ hm rfl
            · cases hb
              exact ⟨by have := HRW.out.1.size; have := HDD.out; show D ≤ g7; omega, by have := HG2.out.1.size; show g7 < _; omega, hgg g7 hs7 (fun e => hn7 g7 (Option.mem_toList.2 e.symm) rfl)⟩
        refine ⟨⟨k + 1, xs ++ [⟨dst, bs⟩], q6, some ⟨g, 0, none⟩, c2, os ++ [⟨dst, bs, some ⟨g7, 0, none⟩, c7⟩], by omega, rfl, by simp [HXL.out], L6.out, by rw [List.map_append, HOS.out]; rfl, ?_⟩, by show n - ((k : Int) + 1).toNat < n - (k : Int).toNat; omega⟩
        refine EP.set ⟨HE2.out, fun W' hg => ⟨hgw.trans hg, ?_, ?_⟩, HK7.out.zl⟩ 159 _ (pc_tail rfl HZ.out 6 _)
        · rw [List.flatMap_append, List.flatMap_singleton]
          exact HO2.out.grewX hg (fun x hx => by rcases (by simpa using hx : x = R ∨ x = A ∨ x = Z ∨ x = Y) with rfl | rfl | rfl | rfl <;> omega)
        · exact hov.grewX hg (fun x hx => by left; rcases (by simpa using hx : x = R ∨ x = A ∨ x = Z ∨ x = Y) with rfl | rfl | rfl | rfl <;> omega) (fun b _ _ h => h)
    · have hkn : k = n := by omega
      subst hkn
      rw [Nat.sub_self, pLoop_zero] at hl
      have HKE := Lib.hid ke
      have HXL := Lib.hid hxl
      have HOS := Lib.hid hos
      clear ke hxl hos
      go_wp2_with fail
      refine HOK.out xs q W1 (.slice ar k cp) _ _ _ _ _ _ _ _ _ _ _ _ _ _ _ _ _ _ _ _ _ _ _ _ _ _ _ _ _ _ _ _ _ hl.symm (HKE.out.also fun W' hg hF => ⟨HK.out.f W' hF.1, ?_⟩)
      have hr := hF.2.1.caps
      exact ⟨ar, cp, os, by rw [HXL.out], by rw [HXL.out]; exact hr.1, hr.2, hF.2.1.cin, fun o ho => by obtain ⟨h1, h2, h3, h4⟩ := hF.2.2 o ho; exact ⟨h1, h2, h3, fun b hb => ⟨Nat.zero_le _, (h4 b hb).2.1, by simp⟩⟩, HOS.out⟩
end
end Go.Proofs.YtnhmekdnfinmiaaGreatDoor
