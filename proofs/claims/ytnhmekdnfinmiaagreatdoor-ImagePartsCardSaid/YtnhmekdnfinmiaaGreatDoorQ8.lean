/- Texts of this proof, merged (printed by wip/pmerge.py out of SameA, PLink, SelfEq, Img, LendB, Open, OpenB). -/
import Derived.Test.YtnhmekdnfinmiaaGreatDoorQ7
import Derived.Test.YtnhmekdnfinmiaaGreatDoorQ5
import Derived.RegionTactic
import Derived.Test.YtnhmekdnfinmiaaGreatDoorQRdS
import Derived.DeepKeys
import Derived.Laws.StructEq
import Derived.Test.YtnhmekdnfinmiaaGreatDoorProg
import Derived.Test.YtnhmekdnfinmiaaGreatDoorQ1
import Derived.Deep.LoopGhost
import Derived.Deep.DeepCutAuto
import Derived.Laws.OwnMore
import Derived.ProofKit
import Derived.OpenShut
import Derived.Deep.Slices
/- Walks: rows of edits and of parcels, held against one another. -/
namespace Go.Proofs.YtnhmekdnfinmiaaGreatDoor
open Go.RowKit Go.Par
set_option linter.unusedSimpArgs false
set_option linter.unusedVariables false
set_option maxRecDepth 100000 in
set_option maxHeartbeats 1000000 in
theorem changes_eq (a b : Option Addr) (ca cb : Nat) (xs : List PChange) (w : World) (ha : CellsIn w a (xs.flatMap chRow)) (hb : CellsIn w b (xs.flatMap chRow)) (hca : xs.length ≤ ca) (hcb : xs.length ≤ cb) (hma : ca ≤ 9223372036854775807) (hmb : cb ≤ 9223372036854775807) :
    Calls Tryz.prog 68 #[.slice a xs.length ca, .slice b xs.length cb] w fun e w' => e = .returned (.bool true) ∧ Grew w w' := by
  have Ha := Lib.hid ha
  have Hb := Lib.hid hb
  clear ha hb
  go_enter Tryz.func68, Tryz.ntmps68
  go_wp2_with fail
  go_loopw [5] (fun i wr => ∃ k : Nat, k ≤ xs.length ∧ i = .int .i64 k ∧ Grew w wr) (fun i _ => xs.length - (intOf i).toNat)
  case atStart => exact ⟨0, by omega, rfl, Grew.refl _⟩
  case round =>
    obtain ⟨k, hk, rfl, hg⟩ := hrel
    have HG := Lib.hid hg
    by_cases hlt : k < xs.length
    · obtain ⟨b1, o1, rfl, hb1, hr1⟩ := (Ha.out.grew hg).rowAt _ 4 chRow_len (by omega) (by omega)
      obtain ⟨b2, o2, rfl, hb2, hr2⟩ := (Hb.out.grew hg).rowAt _ 4 chRow_len (by omega) (by omega)
      have h1 := hr1 k hlt
      have h2 := hr2 k hlt
      clear hr1 hr2 hg
      generalize xs[k] = s at *
      obtain ⟨s0, ⟨s1, s2, s3⟩⟩ := s
      simp only [chRow] at h1 h2
      go_wp2_with fail
      refine wp_region_plus (by kernel_rfl) (by kernel_rfl) ?_
      repeat (go_big_quiet_step ((first | fail)))
      refine wpQuiet_nil ?_
      intro _ hw'
      obtain ⟨nx, rfl⟩ := hw'
      go_wp2_with fail
      go_roundw
      case measure => simp [intOf]; omega
      case rel => exact ⟨k + 1, by omega, by go_num, by repeat (first | with_reducible exact HG.out | with_reducible exact Grew.refl _ | with_reducible assumption | with_reducible apply Grew.plus | with_reducible apply Grew.drewN | with_reducible apply Grew.drew | with_reducible apply Grew.alloc | with_reducible refine Grew.setCell ?_ (by simp [go_sem]; try omega) _)⟩
    · obtain rfl : k = xs.length := by omega
      go_wp2_with fail
      go_ret
      exact ⟨rfl, by repeat (first | with_reducible exact HG.out | with_reducible exact Grew.refl _ | with_reducible assumption | with_reducible apply Grew.plus | with_reducible apply Grew.drewN | with_reducible apply Grew.drew | with_reducible apply Grew.alloc | with_reducible refine Grew.setCell ?_ (by simp [go_sem]; try omega) _)⟩
theorem HistIn.grew {w w' : World} {base : Nat} {v : Value} {h : List PChange} (hh : HistIn w base none v h) (hg : Grew w w') : HistIn w' base none v h :=
  hh.grewX (GrewX.of_grew (ks := []) hg) (by simp) (fun _ _ _ _ => by simp)
theorem HistsIn.grew {w w' : World} {base : Nat} {vs : List Value} {hs : List (List PChange)} (hh : HistsIn w base none vs hs) (hg : Grew w w') : HistsIn w' base none vs hs :=
  hh.grewX (GrewX.of_grew (ks := []) hg) (by simp) (fun _ _ _ _ => by simp)
theorem OvsIn.grew {w w' : World} {base : Nat} {os : List OV} (hh : OvsIn w base none os) (hg : Grew w w') : OvsIn w' base none os :=
  hh.grewX (GrewX.of_grew (ks := []) hg) (by simp) (fun _ _ _ _ => by simp)
set_option maxRecDepth 100000 in
set_option maxHeartbeats 1000000 in
theorem hists_eq {u v : Value} (xs : List (List PChange)) (w : World) (ha : HistsAt w u xs) (hb : HistsAt w v xs) :
    Calls Tryz.prog 35 #[u, v] w fun e w' => e = .returned (.bool true) ∧ Grew w w' := by
  obtain ⟨a, ca, us, rfl, hca, hma, hra, hha⟩ := ha
  obtain ⟨b, cb, vs, rfl, hcb, hmb, hrb, hhb⟩ := hb
  have Ha := Lib.hid (And.intro hra hha)
  have Hb := Lib.hid (And.intro hrb hhb)
  clear hra hha hrb hhb
  go_enter Tryz.func35, Tryz.ntmps35
  go_wp2_with fail
  go_loopw [5] (fun i wr => ∃ k : Nat, k ≤ xs.length ∧ i = .int .i64 k ∧ Grew w wr) (fun i _ => xs.length - (intOf i).toNat)
  case atStart => exact ⟨0, by omega, rfl, Grew.refl _⟩
  case round =>
    obtain ⟨k, hk, rfl, hg⟩ := hrel
    have HG := Lib.hid hg
    by_cases hlt : k < xs.length
    · obtain ⟨b1, o1, rfl, hb1, hr1⟩ := (Ha.out.1.grew hg).at' (by rw [Ha.out.2.1]; omega)
      obtain ⟨b2, o2, rfl, hb2, hr2⟩ := (Hb.out.1.grew hg).at' (by rw [Hb.out.2.1]; omega)
      have h1 := hr1 k (by rw [Ha.out.2.1]; omega)
      have h2 := hr2 k (by rw [Hb.out.2.1]; omega)
      obtain ⟨a1, c1, e1, i1, j1, k1, -⟩ := (Ha.out.2.grew hg).2 k (by rw [Ha.out.2.1]; omega) hlt
      obtain ⟨a2, c2, e2, i2, j2, k2, -⟩ := (Hb.out.2.grew hg).2 k (by rw [Hb.out.2.1]; omega) hlt
      have CE := Lib.hid (fun W (hW : Grew wr W) => changes_eq a1 a2 c1 c2 xs[k] W (k1.grew hW) (k2.grew hW) i1 i2 j1 j2)
      rw [e1] at h1
      rw [e2] at h2
      clear hr1 hr2 hg e1 e2 k1 k2
      generalize xs[k].length = n at *
      go_wp2_with fail
      refine wp_region_plus (by kernel_rfl) (by kernel_rfl) ?_
      repeat (go_big_quiet_step ((first | (go_at_call 68; exact Calls.grew_of (CE.out _ (by repeat (first | with_reducible exact HG.out | with_reducible exact Grew.refl _ | with_reducible assumption | with_reducible apply Grew.plus | with_reducible apply Grew.drewN | with_reducible apply Grew.drew | with_reducible apply Grew.alloc | with_reducible refine Grew.setCell ?_ (by simp [go_sem]; try omega) _)))))))
      refine wpQuiet_nil ?_
      intro _ hw'
      obtain ⟨nx, rfl⟩ := hw'
      go_wp2_with fail
      go_roundw
      case measure => simp [intOf]; omega
      case rel => exact ⟨k + 1, by omega, by go_num, by repeat (first | with_reducible exact HG.out | with_reducible exact Grew.refl _ | with_reducible assumption | with_reducible apply Grew.plus | with_reducible apply Grew.drewN | with_reducible apply Grew.drew | with_reducible apply Grew.alloc | with_reducible refine Grew.setCell ?_ (by simp [go_sem]; try omega) _)⟩
    · obtain rfl : k = xs.length := by omega
      go_wp2_with fail
      go_ret
      exact ⟨rfl, by repeat (first | with_reducible exact HG.out | with_reducible exact Grew.refl _ | with_reducible assumption | with_reducible apply Grew.plus | with_reducible apply Grew.drewN | with_reducible apply Grew.drew | with_reducible apply Grew.alloc | with_reducible refine Grew.setCell ?_ (by simp [go_sem]; try omega) _)⟩
set_option maxRecDepth 100000 in
set_option maxHeartbeats 1000000 in
theorem parcel_eq (self dst : Nat) (bs : List UInt8) (a b : Option Addr) (ca cb : Nat) (w : World) (ha : CellsIn w a (bv bs)) (hb : CellsIn w b (bv bs)) (hca : bs.length ≤ ca) (hcb : bs.length ≤ cb) (hma : ca ≤ 9223372036854775807) (hmb : cb ≤ 9223372036854775807) :
    Calls Tryz.prog 67 #[.agg #[.int .i64 0, .int .i64 self, .int .i64 dst, .slice a bs.length ca], .agg #[.int .i64 0, .int .i64 self, .int .i64 dst, .slice b bs.length cb]] w fun e w' => e = .returned (.bool true) ∧ Grew w w' := by
  have CA := Lib.hid (fun W (hW : Grew w W) => conv_bytes (P := Tryz.prog) (dst := 9) Tryz.underlying22 Tryz.underlying5 Tryz.underlying9 ca (ha.grew hW))
  have CB := Lib.hid (fun W (hW : Grew w W) => conv_bytes (P := Tryz.prog) (dst := 9) Tryz.underlying22 Tryz.underlying5 Tryz.underlying9 cb (hb.grew hW))
  have qa := CA.out ((w.alloc (.cells #[.int .i64 0, .int .i64 self, .int .i64 dst, .slice a bs.length ca] 75)).alloc (.cells #[.int .i64 0, .int .i64 self, .int .i64 dst, .slice b bs.length cb] 75)) (((Grew.refl w).alloc _).alloc _)
  have qb := CB.out ((w.alloc (.cells #[.int .i64 0, .int .i64 self, .int .i64 dst, .slice a bs.length ca] 75)).alloc (.cells #[.int .i64 0, .int .i64 self, .int .i64 dst, .slice b bs.length cb] 75)) (((Grew.refl w).alloc _).alloc _)
  clear ha hb CA CB
  generalize bs.length = n at *
  generalize (⟨bs.toArray⟩ : ByteArray) = s at *
  go_enter Tryz.func67, Tryz.ntmps67
  go_wp2_with fail
  go_ret
  exact ⟨rfl, by repeat (first | with_reducible exact HG.out | with_reducible exact Grew.refl _ | with_reducible assumption | with_reducible apply Grew.plus | with_reducible apply Grew.drewN | with_reducible apply Grew.drew | with_reducible apply Grew.alloc | with_reducible refine Grew.setCell ?_ (by simp [go_sem]; try omega) _)⟩
set_option maxRecDepth 100000 in
set_option maxHeartbeats 1000000 in
theorem parcels_eq {u v : Value} (self : Nat) (xs : List POut) (w : World) (ha : OutsIn w u self xs) (hb : OutsIn w v self xs) :
    Calls Tryz.prog 34 #[u, v] w fun e w' => e = .returned (.bool true) ∧ Grew w w' := by
  obtain ⟨a, ca, us, rfl, hca, hma, hra, hha, hu⟩ := ha
  obtain ⟨b, cb, vs, rfl, hcb, hmb, hrb, hhb, hv⟩ := hb
  have lu : us.length = xs.length := by rw [← hu]; simp
  have lv : vs.length = xs.length := by rw [← hv]; simp
  have HU : Hid (∀ k (h : k < us.length) (h' : k < xs.length), us[k].dst = xs[k].dst ∧ us[k].bytes = xs[k].bytes) := Lib.hid fun k h h' => by subst hu; simp
  have HV : Hid (∀ k (h : k < vs.length) (h' : k < xs.length), vs[k].dst = xs[k].dst ∧ vs[k].bytes = xs[k].bytes) := Lib.hid fun k h h' => by subst hv; simp
  have Ha := Lib.hid (And.intro hra hha)
  have Hb := Lib.hid (And.intro hrb hhb)
  have LU := Lib.hid lu
  have LV := Lib.hid lv
  clear hra hha hrb hhb hu hv lu lv
  go_enter Tryz.func34, Tryz.ntmps34
  go_wp2_with fail
  go_loopw [5] (fun i wr => ∃ k : Nat, k ≤ xs.length ∧ i = .int .i64 k ∧ Grew w wr) (fun i _ => xs.length - (intOf i).toNat)
  case atStart => exact ⟨0, by omega, rfl, Grew.refl _⟩
  case round =>
    obtain ⟨k, hk, rfl, hg⟩ := hrel
    have HG := Lib.hid hg
    by_cases hlt : k < xs.length
    · have ku : k < us.length := by rw [LU.out]; omega
      have kv : k < vs.length := by rw [LV.out]; omega
      obtain ⟨b1, o1, rfl, hb1, hr1⟩ := (Ha.out.1.grew hg).rowAt _ 4 (ovRow_len self) (by omega) (by omega)
      obtain ⟨b2, o2, rfl, hb2, hr2⟩ := (Hb.out.1.grew hg).rowAt _ 4 (ovRow_len self) (by omega) (by omega)
      have h1 := hr1 k ku
      have h2 := hr2 k kv
      obtain ⟨x1, y1⟩ := HU.out k ku hlt
      obtain ⟨x2, y2⟩ := HV.out k kv hlt
      obtain ⟨i1, j1, k1, -⟩ := (Ha.out.2.grew hg) us[k] (List.getElem_mem _)
      obtain ⟨i2, j2, k2, -⟩ := (Hb.out.2.grew hg) vs[k] (List.getElem_mem _)
      simp only [ovRow] at h1 h2
      rw [x1, y1] at h1
      rw [x2, y2] at h2
      rw [y1] at i1 k1
      rw [y2] at i2 k2
      generalize us[k].at_ = a1 at *
      generalize us[k].cap = c1 at *
      generalize vs[k].at_ = a2 at *
      generalize vs[k].cap = c2 at *
      generalize xs[k] = o at *
      obtain ⟨dst, bs⟩ := o
      simp only at h1 h2 i1 k1 i2 k2
      have CE := Lib.hid (fun W (hW : Grew wr W) => parcel_eq self dst bs a1 a2 c1 c2 W (k1.grew hW) (k2.grew hW) i1 i2 j1 j2)
      clear hr1 hr2 hg k1 k2 x1 y1 x2 y2 ku kv
      generalize bs.length = n at *
      go_wp2_with fail
      refine wp_region_plus (by kernel_rfl) (by kernel_rfl) ?_
      repeat (go_big_quiet_step ((first | (go_at_call 67; exact Calls.grew_of (CE.out _ (by repeat (first | with_reducible exact HG.out | with_reducible exact Grew.refl _ | with_reducible assumption | with_reducible apply Grew.plus | with_reducible apply Grew.drewN | with_reducible apply Grew.drew | with_reducible apply Grew.alloc | with_reducible refine Grew.setCell ?_ (by simp [go_sem]; try omega) _)))))))
      refine wpQuiet_nil ?_
      intro _ hw'
      obtain ⟨nx, rfl⟩ := hw'
      go_wp2_with fail
      go_roundw
      case measure => simp [intOf]; omega
      case rel => exact ⟨k + 1, by omega, by go_num, by repeat (first | with_reducible exact HG.out | with_reducible exact Grew.refl _ | with_reducible assumption | with_reducible apply Grew.plus | with_reducible apply Grew.drewN | with_reducible apply Grew.drew | with_reducible apply Grew.alloc | with_reducible refine Grew.setCell ?_ (by simp [go_sem]; try omega) _)⟩
    · obtain rfl : k = xs.length := by omega
      go_wp2_with fail
      go_ret
      exact ⟨rfl, by repeat (first | with_reducible exact HG.out | with_reducible exact Grew.refl _ | with_reducible assumption | with_reducible apply Grew.plus | with_reducible apply Grew.drewN | with_reducible apply Grew.drew | with_reducible apply Grew.alloc | with_reducible refine Grew.setCell ?_ (by simp [go_sem]; try omega) _)⟩
end Go.Proofs.YtnhmekdnfinmiaaGreatDoor
/- Walks: what the program says of bytes that are refused is what the document says. -/
namespace Go.Proofs.YtnhmekdnfinmiaaGreatDoor
open Go.RowKit Go.Par
set_option linter.unusedSimpArgs false
set_option linter.unusedVariables false
theorem ref_is (r : Ref) (h : r.few) : (refErr r).code = (refNo bImage bParts r).1 ∧ (refErr r).codes = (refNo bImage bParts r).2.2 ∧ (refErr r).chain = (refNo bImage bParts r).2.1 ∧ (refErr r).size ≤ 1000000000000 ∧ refErr r ≠ .none ∧ (refErr r).code ≠ 0 := by
  have key : ∀ k, k = 2 ∨ k = 6 ∨ k = 7 → numOf k = k := fun k hk => by
    unfold numOf
    rw [if_pos (by omega)]
  cases r with
  | wire c p k =>
    have hn := key k h
    have hk : k ≠ 0 := by rcases h with h | h | h <;> omega
    have e1 : (refErr (.wire c p k)).code = k := by
      show ((Err.fault bImage bParts p (.fault bWire c p (.reason k))).walk codeF 99).1 = k
      rw [Err.walk, Err.walk, Err.walk, hn]
      simp [codeF]
      try (rcases h with h | h | h <;> omega)
    refine ⟨e1, ?_, ?_, ?_, by simp [refErr], by rw [e1]; exact hk⟩
    · show ((Err.fault bImage bParts p (.fault bWire c p (.reason k))).walk codesF []).1 = [k]
      rw [Err.walk, Err.walk, Err.walk, hn]
      simp [codesF]
      try omega
    · show (Err.fault bImage bParts p (.fault bWire c p (.reason k))).chain = _
      rw [Err.chain, Err.chain, Err.chain]
      rfl
    · show (Err.fault bImage bParts p (.fault bWire c p (.reason k))).size ≤ _
      rw [Err.size, Err.size, Err.size]; omega
  | form p =>
    have hn := key 6 (by simp)
    have e1 : (refErr (.form p)).code = 6 := by
      show ((Err.fault bImage bParts p (.reason 6)).walk codeF 99).1 = 6
      rw [Err.walk, Err.walk, hn]
      simp [codeF]
    refine ⟨e1, ?_, ?_, ?_, by simp [refErr], by rw [e1]; decide⟩
    · show ((Err.fault bImage bParts p (.reason 6)).walk codesF []).1 = [6]
      rw [Err.walk, Err.walk, hn]
      simp [codesF]
    · show (Err.fault bImage bParts p (.reason 6)).chain = _
      rw [Err.chain, Err.chain]
      rfl
    · show (Err.fault bImage bParts p (.reason 6)).size ≤ _
      rw [Err.size, Err.size]; omega
theorem refused_ref {S : Nat → Addr} {w : World} (hS : Sents S w) {r : Ref} (hr : r.few) {v u : Value} (he : ErrAt S w (refErr r) v) (hn : NoAt w [] 0 (refNo bImage bParts r) u) :
    Calls Tryz.prog 9 #[v, u] w fun x w' => x = .returned (.bool true) ∧ Grew w w' := by
  obtain ⟨a1, c1, a2, c2, rfl, -, ha, hb, l1, l2, m1, m2, -, -⟩ := hn
  obtain ⟨e1, e2, e3, e4, e5, e6⟩ := ref_is r hr
  have h := refused_some hS he e4 e5 e6 a1 a2 c1 c2 (by rw [e3]; exact ha) (by rw [e2]; exact hb) (by rw [e3]; exact l1) (by rw [e2]; exact l2) m1 m2
  rw [e1, e2, e3] at h
  exact h
theorem NoAt.grew {w w' : World} {x : Nat × List Link × List Nat} {v : Value} (h : NoAt w [] 0 x v) (hg : Grew w w') : NoAt w' [] 0 x v := by
  obtain ⟨a1, c1, a2, c2, e, h1, ha, hb, l⟩ := h
  exact ⟨a1, c1, a2, c2, e, h1, ha.grew hg, hb.grew hg, l⟩
theorem PartsV.grew {w w' : World} {v : Value} {x : PParts} (h : PartsV w v x) (hg : Grew w w') : PartsV w' v x := by
  obtain ⟨b, ac, hh, d, u, o, e, hz, ⟨a1, c1, f1, i1, j1, k1⟩, ⟨a2, c2, f2, i2, j2, k2⟩, ⟨a3, c3, f3, i3, j3, k3⟩, ⟨a4, c4, v4, f4, i4, j4, k4, l4⟩, ⟨a5, c5, v5, f5, i5, j5, k5, l5⟩, ⟨a6, c6, os, f6, i6, j6, k6, l6, m6⟩⟩ := h
  exact ⟨b, ac, hh, d, u, o, e, hz, ⟨a1, c1, f1, i1, j1, k1.grew hg⟩, ⟨a2, c2, f2, i2, j2, k2.grew hg⟩, ⟨a3, c3, f3, i3, j3, k3.grew hg⟩, ⟨a4, c4, v4, f4, i4, j4, k4.grew hg, l4.grew hg⟩, ⟨a5, c5, v5, f5, i5, j5, k5.grew hg, l5.grew hg⟩, ⟨a6, c6, os, f6, i6, j6, k6.grew hg, l6.grew hg, m6⟩⟩
end Go.Proofs.YtnhmekdnfinmiaaGreatDoor
/- A value all of numbers is equal to itself, whatever arrays and structs it is made of. No program in sight. -/
set_option linter.unusedSimpArgs false
set_option linter.unusedVariables false
namespace Go
def intTy (P : Program) : Nat → TypeId → Bool
  | 0, _ => false
  | m + 1, t => match P.underlying t with
    | some (.int _) => decide (P.cellsOf t = 1)
    | some (.array n e) => intTy P m e && decide (n * P.cellsOf e ≤ P.cellsOf t)
    | some (.struct fs) => (fs.toList.all fun f => intTy P m f.type && decide (f.offset + P.cellsOf f.type ≤ P.cellsOf t)) && !P.stoodInHeld t
    | _ => false
section
variable {P : Program}
def SelfAt (P : Program) (dd : Nat) (e : TypeId) : Prop := ∀ (w : World) (xs : Array Value) (off : Nat), off + P.cellsOf e ≤ xs.size → (∀ u ∈ xs.toList, ∃ x, u = Value.int .i64 x) →
  ∃ a, (part e xs off).run P w = .ok a w ∧ (Op.equalIn dd e a a).run P w = .ok true w
theorem self_items {dd : Nat} {e : TypeId} (h : SelfAt P dd e) (w : World) (xs : Array Value) (hx : ∀ u ∈ xs.toList, ∃ x, u = Value.int .i64 x) : ∀ is : List Nat, (∀ i ∈ is, i * P.cellsOf e + P.cellsOf e ≤ xs.size) →
    (Op.eqItems dd e (P.cellsOf e) xs xs is).run P w = .ok true w
  | [], _ => by simp [Op.eqItems]
  | i :: is, hi => by
    obtain ⟨a, h1, h2⟩ := h w xs (i * P.cellsOf e) (hi i (by simp)) hx
    have h3 := self_items h w xs hx is (fun j hj => hi j (by simp [hj]))
    simp only [Op.eqItems, Sem.run_bind, h1, h2, Result.andThen_ok, Bool.not_true, Bool.false_eq_true, if_false, h3]
theorem self_fields {dd : Nat} (w : World) (xs : Array Value) (hx : ∀ u ∈ xs.toList, ∃ x, u = Value.int .i64 x) : ∀ fs : List Field, (∀ f ∈ fs, SelfAt P dd f.type ∧ f.offset + P.cellsOf f.type ≤ xs.size) →
    (Op.eqFields dd xs xs fs).run P w = .ok true w
  | [], _ => by simp [Op.eqFields]
  | f :: fs, hf => by
    obtain ⟨a, h1, h2⟩ := (hf f (by simp)).1 w xs f.offset (hf f (by simp)).2 hx
    have h3 := self_fields w xs hx fs (fun j hj => hf j (by simp [hj]))
    unfold Op.eqFields
    split
    · simp only [Sem.run_bind, h1, h2, Result.andThen_ok, Bool.not_true, Bool.false_eq_true, if_false, h3]
    · exact h3
theorem self_part (d : Nat) : ∀ (m : Nat) (e : TypeId), intTy P m e = true → SelfAt P (d + m) e
  | 0, _, h => by simp [intTy] at h
  | m + 1, e, h => by
    intro w xs off ho hx
    unfold intTy at h
    cases hu : P.underlying e with
    | none => simp [hu] at h
    | some kd =>
      obtain ⟨i, hi⟩ := info_of_underlying hu
      have hs : P.cellsOf e = i.size := by simp [Program.cellsOf, hi]
      have hsub : ∀ u ∈ (xs.extract off (off + P.cellsOf e)).toList, ∃ x, u = Value.int .i64 x := fun u hu => by
        rw [Array.toList_extract] at hu
        exact hx u (List.mem_of_mem_drop (List.mem_of_mem_take (by simpa [List.extract] using hu)))
      have hsz : (xs.extract off (off + P.cellsOf e)).size = P.cellsOf e := by rw [Array.size_extract]; omega
      cases kd
      case int k =>
        have h1 : P.cellsOf e = 1 := by simpa [hu] using h
        have hlt : off < xs.size := by omega
        obtain ⟨x, hxx⟩ := hx xs[off] (by simp)
        refine ⟨xs[off], ?_, ?_⟩
        · simp [part, isAgg, run_underlying hu, Array.getElem?_eq_getElem hlt]
        · rw [hxx, show d + (m + 1) = (d + m) + 1 from rfl, run_equalIn_int w (d + m) e .i64 k x x hu]; simp
      case array n e' =>
        simp only [hu, Bool.and_eq_true, decide_eq_true_eq] at h
        refine ⟨.agg (xs.extract off (off + P.cellsOf e)), ?_, ?_⟩
        · simp [part, isAgg, run_underlying hu, run_sizeOf w hi]
        · have hpe : ∃ i, P.info? e' = some i := by
            cases m with
            | zero => simp [intTy] at h
            | succ m' =>
              have h0 := h.1
              unfold intTy at h0
              cases hue : P.underlying e' with
              | none => simp [hue] at h0
              | some _ => exact info_of_underlying hue
          obtain ⟨i', hi'⟩ := hpe
          rw [show d + (m + 1) = (d + m) + 1 from rfl, run_equalIn_array w (d + m) _ _ hu hi']
          refine self_items (self_part d m e' h.1) w _ hsub _ (fun j hj => ?_)
          rw [hsz]
          have hj' := List.mem_range.1 hj
          calc j * P.cellsOf e' + P.cellsOf e' = (j + 1) * P.cellsOf e' := by rw [Nat.succ_mul]
            _ ≤ n * P.cellsOf e' := Nat.mul_le_mul_right _ hj'
            _ ≤ _ := h.2
      case struct fs =>
        simp only [hu, Bool.and_eq_true, Bool.not_eq_true', List.all_eq_true, decide_eq_true_eq] at h
        refine ⟨.agg (xs.extract off (off + P.cellsOf e)), ?_, ?_⟩
        · simp [part, isAgg, run_underlying hu, run_sizeOf w hi]
        · have hfs : P.fieldsOf e = fs := by simp [Program.fieldsOf, hu]
          rw [show d + (m + 1) = (d + m) + 1 from rfl, run_equalIn_struct w (d + m) e _ _ (by rw [hfs]; exact hu) h.2]
          refine self_fields w _ hsub _ (fun f hf => ?_)
          rw [hfs] at hf
          obtain ⟨h3, h4⟩ := h.1 f hf
          exact ⟨self_part d m f.type h3, by rw [hsz]; exact h4⟩
      all_goals (exfalso; simp [hu] at h)
theorem self_agg (d m : Nat) (e : TypeId) (hm : intTy P m e = true) (w : World) (xs : Array Value) (hs : xs.size = P.cellsOf e) (hx : ∀ u ∈ xs.toList, ∃ x, u = Value.int .i64 x) (ha : (isAgg e).run P w = .ok true w) : (Op.equalIn (d + m) e (.agg xs) (.agg xs)).run P w = .ok true w := by
  obtain ⟨a, h1, h2⟩ := self_part d m e hm w xs 0 (by omega) hx
  have hi : ∃ i, P.info? e = some i := by
    cases m with
    | zero => simp [intTy] at hm
    | succ m' =>
      unfold intTy at hm
      cases hue : P.underlying e with
      | none => simp [hue] at hm
      | some _ => exact info_of_underlying hue
  obtain ⟨i, hi⟩ := hi
  have hsi : P.cellsOf e = i.size := by simp [Program.cellsOf, hi]
  have : (part e xs 0).run P w = .ok (.agg xs) w := by
    unfold part
    simp only [Sem.run_bind, ha, Result.andThen_ok, if_true, run_sizeOf w hi, Nat.zero_add, Sem.run_pure, ← hsi, ← hs]
    simp
  rw [this] at h1
  cases h1
  exact h2
end
end Go
/- Walks of layer 17: the check of bytes; clip. -/
namespace Go.Proofs.YtnhmekdnfinmiaaGreatDoor
open Go.RowKit
set_option linter.unusedSimpArgs false
set_option linter.unusedVariables false

set_option maxRecDepth 100000 in
set_option maxHeartbeats 1000000 in
theorem clip17_any (a : Option Addr) (cap : Nat) (l : List UInt8) (w : World) (hcap : l.length ≤ cap) (hm : cap ≤ 9223372036854775807) :
    Calls Tryz.prog 4 #[.slice a l.length cap] w fun e w' => e = .returned (.slice a (l.take 4000).length cap) ∧ w' = w := by
  by_cases h : l.length > 4000
  · have hl : (l.take 4000).length = 4000 := by simp; omega
    rw [hl]
    generalize l.length = n at *
    go_enter Tryz.func4, Tryz.ntmps4
    go_wp2
    go_ret
    exact ⟨rfl, rfl⟩
  · have hl : (l.take 4000).length = l.length := by simp; omega
    rw [hl]
    generalize l.length = n at *
    go_enter Tryz.func4, Tryz.ntmps4
    go_wp2
    go_ret
    exact ⟨rfl, rfl⟩

end Go.Proofs.YtnhmekdnfinmiaaGreatDoor
/- Walks: bytes that are lent. -/
namespace Go.Proofs.YtnhmekdnfinmiaaGreatDoor
open Go.RowKit
set_option linter.unusedSimpArgs false
set_option linter.unusedVariables false
theorem elByteB : Elem Tryz.prog 22 5 1 1 := Elem.of Tryz.underlying22 (by kernel_rfl) (by decide)
theorem bytesB_ext {s t : ByteArray} (h : s.data.toList = t.data.toList) : s = t := by
  cases s; cases t
  simpa using h

set_option maxRecDepth 100000 in
set_option maxHeartbeats 1000000 in
theorem lend_any (a : Option Addr) (cap : Nat) (l : List UInt8) (w : World) (ha : CellsIn w a (bv l)) (hcap : l.length ≤ cap) (hm : cap ≤ 9223372036854775807) (hnil : a = none → cap = 0) (hl : l.length ≤ 1000000) :
    Calls Tryz.prog 6 #[.slice a l.length cap] w fun e w' => ∃ g c, e = .returned (.slice (some ⟨g, 0, none⟩) l.length c) ∧ w'.ownsRow w.heap.size 5 1 (.slice (some ⟨g, 0, none⟩) (l.length + 4) c) (l.length + 4) (bv (l ++ [201, 202, 203, 204])) ∧ Grew w w' := by
  have Ha := Lib.hid ha
  have Hnil := Lib.hid hnil
  clear ha hnil
  go_enter Tryz.func6, Tryz.ntmps6
  go_wp2_with (first
    | (at_builtin; refine wpList_apps (by rfl) (.tmp 4) (.tmp 5) 22 (by rfl) elByteB w.heap.size _ 0 [] (by rfl) (World.ownsRow_lit w #[] 0 (Nat.le_refl _) (by decide) rfl) a l.length cap (bv l) (by rfl) (Ha.out.grew ((Grew.refl w).alloc _)) (by simp [bv]) (bv_one l) (fun h => by have h1 := Hnil.out h; omega) (by omega) (by unfold maxLen; omega) w ((Grew.refl w).alloc _) (Nat.le_refl _) (by simp) ?_; intro ar cp w1 hg1 hown1 hkeep hsz1; simp only [Nat.zero_add, List.nil_append] at hown1; have HO1 := Lib.hid hown1; have HG1 := Lib.hid hg1; clear hown1 hg1 hkeep)
    | (at_builtin; go_loud (refine wpList_app (by rfl) (.tmp 6) (.tmp 7) 22 (by rfl) elByteB w.heap.size _ l.length (bv l) (by rfl) (HO1.out.alloc _) _ 4 4 #[.int .u8 201, .int .u8 202, .int .u8 203, .int .u8 204] 5 (by rfl) (heap_alloc_at _ _ _ (by simp [go_sem])) (by rfl) (by intro u hu; simp at hu; rcases hu with rfl | rfl | rfl | rfl <;> rfl) (by omega) (by omega) (by unfold maxLen; omega) w (HG1.out.alloc _) (Nat.le_refl _) (by have := HG1.out.size; simp; omega) ?_); intro g c2 w2 hg2 hown2 hkeep2 hsz2 hat2; have HO2 := Lib.hid hown2; have HG2 := Lib.hid hg2; have hcc := HO2.out.caps; clear hown2 hg2 hkeep2 hat2))
  go_ret
  exact ⟨g, c2, rfl, by rw [bv_append]; exact HO2.out, HG2.out⟩

theorem str_join (l m : List UInt8) : (⟨(l ++ m).toArray⟩ : ByteArray) = ⟨l.toArray⟩ ++ ⟨m.toArray⟩ := by
  apply bytesB_ext; simp
set_option maxRecDepth 100000 in
set_option maxHeartbeats 1000000 in
theorem intact_any (g c base : Nat) (b : Option Addr) (cb : Nat) (l : List UInt8) (w w0 : World) (hown : w.ownsRow base 5 1 (.slice (some ⟨g, 0, none⟩) (l.length + 4) c) (l.length + 4) (bv (l ++ [201, 202, 203, 204]))) (hb : CellsIn w b (bv l)) (hl : l.length ≤ 1000000) (hg0 : Grew w0 w) (h0 : w0.heap.size ≤ base) :
    Calls Tryz.prog 8 #[.slice (some ⟨g, 0, none⟩) l.length c, .slice b l.length cb] w fun e w' => e = .returned (.bool true) ∧ Grew w0 w' ∧ w'.heap.size = w.heap.size ∧ ∀ k, k ≠ g → w'.heap[k]? = w.heap[k]? := by
  have hcc := hown.caps
  have hgb := (hown.lt g rfl).1
  have hc1 := conv_bytes (P := Tryz.prog) (dst := 9) Tryz.underlying22 Tryz.underlying5 Tryz.underlying9 c hown.cin
  rw [List.length_append, str_join] at hc1
  have hc2 := conv_bytes (P := Tryz.prog) (dst := 9) Tryz.underlying22 Tryz.underlying5 Tryz.underlying9 cb hb
  have HO := Lib.hid hown
  have HG := Lib.hid hg0
  clear hown hb hg0
  simp only [List.length_cons, List.length_nil, Nat.reduceAdd] at hc1
  have hsz : (⟨l.toArray⟩ : ByteArray).size ≤ 1000000 := by show l.toArray.size ≤ _; simpa using hl
  generalize hn : l.length = n at *
  have HN := Lib.hid hn
  clear hn
  generalize (⟨l.toArray⟩ : ByteArray) = s at *
  go_enter Tryz.func8, Tryz.ntmps8
  go_wp2_with fail
  have HX : ∃ xs, xs.length = n + 4 ∧ Hid (w.ownsRow base 5 1 (.slice (some ⟨g, 0, none⟩) (n + 4) c) (n + 4) xs) := ⟨_, by simp [bv, HN.out], HO.out⟩
  clear HO HN hc1 hc2
  go_loopw [7] (fun i wr => ∃ (k : Nat) (xs : List Value), k ≤ n + 4 ∧ i = .int .i64 k ∧ xs.length = n + 4 ∧ wr.ownsRow base 5 1 (.slice (some ⟨g, 0, none⟩) (n + 4) c) (n + 4) xs ∧ Grew w0 wr ∧ wr.heap.size = w.heap.size ∧ ∀ k, k ≠ g → wr.heap[k]? = w.heap[k]?) (fun i _ => n + 4 - (intOf i).toNat)
  case atStart =>
    obtain ⟨xs, h1, h2⟩ := HX
    exact ⟨0, xs, by omega, rfl, h1, h2.out, HG.out, rfl, fun _ _ => rfl⟩
  case round =>
    obtain ⟨k, xs, hk, rfl, hxl, ho, hg, hsz1, hkp⟩ := hrel
    have HK := Lib.hid hkp
    have HSZ := Lib.hid hsz1
    clear HX HG hkp hsz1
    have HO := Lib.hid ho
    have HG := Lib.hid hg
    clear ho hg
    by_cases hlt : k < n + 4
    · have hck := HO.out.cellAt k (by omega)
      have hfk := HO.out.frozenAt k
      rw [List.getElem?_eq_getElem (by omega)] at hck
      have HXL := Lib.hid hxl
      generalize xs[k] = u at hck
      clear hxl
      go_wp2_with fail
      go_roundw
      case measure => simp [intOf]; omega
      case rel => exact ⟨k + 1, _, by omega, by go_num, by rw [List.length_set]; exact HXL.out, (HO.out.stored k (.int .u8 85)).1, HG.out.setCell (by simp; omega) _, by rw [World.setCell_size]; exact HSZ.out, fun j hj => by rw [World.block_setCell _ _ _ _ hj]; exact HK.out j hj⟩
    · obtain rfl : k = n + 4 := by omega
      clear hxl
      go_wp2_with fail
      go_ret
      exact ⟨rfl, HG.out, HSZ.out, HK.out⟩
end Go.Proofs.YtnhmekdnfinmiaaGreatDoor
/- Opening arguments whose types are flat: integers, bools and strings, in structs and arrays. No program in sight. -/
namespace Go
open Go.ChangeShapes Go.WideShapes

def FitsCell : TypeDesc → Value → Prop
  | .int k, v => ∃ n, v = .int k n ∧ (Lit.int k n).wf = true
  | .bool, v => ∃ b, v = .bool b
  | .string, v => ∃ s, v = .string s ∧ s.size ≤ maxLen
  | _, _ => False

def FitsRow : List TypeDesc → List Value → Prop
  | [], [] => True
  | k :: ks, c :: cs => FitsCell k c ∧ FitsRow ks cs
  | _, _ => False

theorem FitsRow.length {ks : List TypeDesc} {cs : List Value} (h : FitsRow ks cs) : cs.length = ks.length := by
  induction ks generalizing cs with
  | nil => cases cs <;> simp_all [FitsRow]
  | cons k ks ih => cases cs with
    | nil => simp [FitsRow] at h
    | cons c cs => simp [ih h.2]
theorem FitsRow.append {ks ls : List TypeDesc} {cs ds : List Value} (h : FitsRow ks cs) (k : FitsRow ls ds) : FitsRow (ks ++ ls) (cs ++ ds) := by
  induction ks generalizing cs with
  | nil => cases cs <;> simp_all [FitsRow]
  | cons a ks ih => cases cs with
    | nil => simp [FitsRow] at h
    | cons c cs => exact ⟨h.1, ih h.2⟩
theorem fitsRow_cons {k : TypeDesc} {ks : List TypeDesc} {cs : List Value} (h : FitsRow (k :: ks) cs) : ∃ c cs', cs = c :: cs' ∧ FitsCell k c ∧ FitsRow ks cs' := by
  cases cs with
  | nil => simp [FitsRow] at h
  | cons c cs => exact ⟨c, cs, rfl, h.1, h.2⟩
theorem fitsRow_nil {cs : List Value} (h : FitsRow [] cs) : cs = [] := by
  cases cs with
  | nil => rfl
  | cons c cs => simp [FitsRow] at h
def flatFields (f : TypeId → Option (List TypeDesc)) (c : TypeId → Nat) : Nat → List Field → Option (List TypeDesc)
  | _, [] => some []
  | off, x :: xs => (f x.type).bind fun ks => if x.offset = off ∧ c x.type = ks.length then (flatFields f c (off + ks.length) xs).map (ks ++ ·) else none
def Program.flat (P : Program) : Nat → TypeId → Option (List TypeDesc)
  | 0, _ => none
  | d + 1, t => match P.underlying t with
    | some (.int k) => some [.int k]
    | some .bool => some [.bool]
    | some .string => some [.string]
    | some (.array n e) => (P.flat d e).bind fun ks => if P.cellsOf e = ks.length ∧ P.cellsOf t = n * ks.length then some (List.replicate n ks).flatten else none
    | some (.struct fs) => (flatFields (P.flat d) P.cellsOf 0 fs.toList).bind fun ks => if P.cellsOf t = ks.length then some ks else none
    | _ => none

section
variable {H : Type} {enc : TypeId × Value → H} {P : Program} {w : World} {base : Nat} {spare : Nat → Bool} {held : Bool}

theorem fits_rows {ks : List TypeDesc} : ∀ (n : Nat) (cs : List Value), cs.length = n * ks.length → (∀ i, i < n → FitsRow ks ((cs.drop (i * ks.length)).take ks.length)) → FitsRow (List.replicate n ks).flatten cs
  | 0, cs, hl, _ => by
    have : cs = [] := by simpa using hl
    subst this; exact trivial
  | n + 1, cs, hl, h => by
    have h0 := h 0 (by omega)
    simp only [Nat.zero_mul, List.drop_zero] at h0
    rw [List.replicate_succ, List.flatten_cons, ← List.take_append_drop ks.length cs]
    refine h0.append (fits_rows n (cs.drop ks.length) (by rw [List.length_drop, hl, Nat.add_mul]; omega) (fun i hi => ?_))
    have := h (i + 1) (by omega)
    rwa [List.drop_drop, show ks.length + i * ks.length = (i + 1) * ks.length by rw [Nat.add_mul]; omega]

theorem trod_flatFields {d m : Nat} {cs : List Value}
    (ih : ∀ (t : TypeId) (ks : List TypeDesc) (cs : List Value) (x : DataW H × List MemPlace), P.flat d t = some ks → DataW.trod enc P w base spare held m t cs = some x → x.2 = [] ∧ FitsRow ks cs) :
    ∀ (l : List Field) (ys : List (DataW H × List MemPlace)) (off : Nat) (ks : List TypeDesc), flatFields (P.flat d) P.cellsOf off l = some ks → ys.length = l.length →
      (∀ (i : Nat) (f : Field), l[i]? = some f → DataW.trod enc P w base spare held m f.type ((cs.drop f.offset).take (P.cellsOf f.type)) = ys[i]?) →
      ys.flatMap (·.2) = [] ∧ FitsRow ks ((cs.drop off).take ks.length)
  | [], ys, off, ks, h, hl, _ => by
    simp only [flatFields, Option.some.injEq] at h
    subst h
    have : ys = [] := by simpa using hl
    subst this
    exact ⟨rfl, by simp [FitsRow]⟩
  | f :: l, [], off, ks, h, hl, _ => by simp at hl
  | f :: l, y :: ys, off, ks, h, hl, hg => by
    simp only [flatFields] at h
    cases hf : P.flat d f.type with
    | none => simp [hf] at h
    | some qs =>
      simp only [hf, Option.bind_some] at h
      split at h
      · rename_i hc
        cases hr : flatFields (P.flat d) P.cellsOf (off + qs.length) l with
        | none => simp [hr] at h
        | some rs =>
          simp only [hr, Option.map_some, Option.some.injEq] at h
          subst h
          have h0 := hg 0 f rfl
          rw [hc.1, hc.2] at h0
          obtain ⟨h1, h2⟩ := ih _ _ _ _ hf h0
          obtain ⟨h3, h4⟩ := trod_flatFields ih l ys (off + qs.length) rs hr (by simpa using hl) (fun i g hi => hg (i + 1) g (by simpa using hi))
          refine ⟨by simp only [List.flatMap_cons, h1, h3, List.append_nil], ?_⟩
          have hsp : (cs.drop off).take (qs ++ rs).length = (cs.drop off).take qs.length ++ (cs.drop (off + qs.length)).take rs.length := by
            rw [List.length_append, List.take_add, List.drop_drop]
          rw [hsp]
          exact h2.append h4
      · simp at h

theorem trod_flat : ∀ (d : Nat) (t : TypeId) (ks : List TypeDesc) (fuel : Nat) (cs : List Value) (x : DataW H × List MemPlace), P.flat d t = some ks →
    DataW.trod enc P w base spare held fuel t cs = some x → x.2 = [] ∧ FitsRow ks cs
  | 0, _, _, _, _, _, h, _ => by simp [Program.flat] at h
  | d + 1, t, ks, fuel, cs, x, h, hx => by
    unfold Program.flat at h
    split at h
    · rename_i k hu
      obtain ⟨n, rfl, rfl, wn⟩ := DataW.trod_int hu hx
      simp only [Option.some.injEq] at h; subst h
      exact ⟨rfl, ⟨n, rfl, wn⟩, trivial⟩
    · rename_i hu
      obtain ⟨b, rfl, rfl⟩ := DataW.trod_bool hu hx
      simp only [Option.some.injEq] at h; subst h
      exact ⟨rfl, ⟨b, rfl⟩, trivial⟩
    · rename_i hu
      obtain ⟨s, rfl, rfl, ws⟩ := DataW.trod_string hu hx
      simp only [Option.some.injEq] at h; subst h
      exact ⟨rfl, ⟨s, rfl, ws⟩, trivial⟩
    · rename_i n e hu
      obtain ⟨xs, m, rfl, rfl, hl, hn, hel⟩ := DataW.trod_array hu hx
      cases hf : P.flat d e with
      | none => simp [hf] at h
      | some qs =>
        simp only [hf, Option.bind_some] at h
        split at h
        · rename_i hc
          simp only [Option.some.injEq] at h; subst h
          have hg : ∀ i, i < n → ∃ y, xs[i]? = some y ∧ y.2 = [] ∧ FitsRow qs ((cs.drop (i * qs.length)).take qs.length) := by
            intro i hi
            have h1 := hel i hi
            have hi' : i < xs.length := by omega
            rw [List.getElem?_eq_getElem hi'] at h1
            have h2 := trod_flat d e qs m _ _ hf h1
            rw [hc.1] at h2
            exact ⟨_, List.getElem?_eq_getElem hi', h2⟩
          refine ⟨?_, fits_rows n cs (by rw [hl, hc.2]) (fun i hi => let ⟨_, _, _, h3⟩ := hg i hi; h3)⟩
          simp only [List.flatMap_eq_nil_iff]
          intro y hy
          obtain ⟨i, hi, he⟩ := List.mem_iff_getElem.1 hy
          obtain ⟨z, hz, hz2, _⟩ := hg i (by omega)
          rw [List.getElem?_eq_getElem hi, he] at hz
          simp only [Option.some.injEq] at hz
          rw [hz]; exact hz2
        · simp at h
    · rename_i fs hu
      obtain ⟨xs, m, rfl, rfl, hl, hn, hel⟩ := DataW.trod_struct hu hx
      cases hr : flatFields (P.flat d) P.cellsOf 0 fs.toList with
      | none => simp [hr] at h
      | some qs =>
        simp only [hr, Option.bind_some] at h
        split at h
        · rename_i hc
          simp only [Option.some.injEq] at h; subst h
          have h1 := trod_flatFields (cs := cs) (fun t ks cs x => trod_flat d t ks m cs x) fs.toList xs 0 qs hr (by simpa using hn) (fun i f hi => hel i f (by simpa using hi))
          refine ⟨h1.1, ?_⟩
          have h2 := h1.2
          rwa [List.drop_zero, List.take_of_length_le (by omega)] at h2
        · simp at h
    · simp at h
end

theorem list_choose {α : Type} (d : α) {n : Nat} {p : Nat → α → Prop} (h : ∀ i, i < n → ∃ x, p i x) : ∃ xs : List α, xs.length = n ∧ ∀ i, i < n → p i (xs.getD i d) := by
  induction n with
  | zero => exact ⟨[], rfl, fun i hi => absurd hi (Nat.not_lt_zero _)⟩
  | succ n ih =>
    obtain ⟨xs, hl, hx⟩ := ih (fun i hi => h i (by omega))
    obtain ⟨y, hy⟩ := h n (by omega)
    refine ⟨xs ++ [y], by simp [hl], fun i hi => ?_⟩
    by_cases hlt : i < n
    · have := hx i hlt
      rw [List.getD_eq_getElem?_getD, List.getElem?_append_left (by omega), ← List.getD_eq_getElem?_getD]
      exact this
    · obtain rfl : i = n := by omega
      rw [List.getD_eq_getElem?_getD, List.getElem?_append_right (by omega), hl]
      simpa using hy

section
variable {H : Type} {enc : TypeId × Value → H} {P : Program} {w : World} {base : Nat} {spare : Nat → Bool} {held : Bool}
theorem flatSlice_open {d fuel : Nat} {t e : TypeId} {ks : List TypeDesc} {cs : List Value} {x : DataW H × List MemPlace} (ht : P.underlying t = some (.slice e)) (hf : P.flat d e = some ks) (hn : 0 < ks.length)
    (hc : P.cellsOf e = ks.length) (h : DataW.trod enc P w base spare held fuel t cs = some x) :
    ∃ (a : Option Addr) (len cap : Nat), cs = [.slice a len cap] ∧ len ≤ cap ∧ cap ≤ maxLen ∧
      (0 < len → ∃ b off, a = some ⟨b, off, none⟩ ∧ b < w.heap.size ∧ ∀ i, i < len → ∃ row, w.cellsAt ⟨b, off + i * ks.length, none⟩ ks.length = some row ∧ FitsRow ks row) ∧ (a = none → cap = 0) := by
  rcases Go.Deep.open_slice ht h with ⟨rfl, _⟩ | ⟨a, len, cap, m, n, D, Pl, rfl, _, hl, hm, hmm, _, hel⟩
  · exact ⟨none, 0, 0, rfl, Nat.le_refl _, Nat.zero_le _, fun h => absurd h (Nat.lt_irrefl _), fun _ => rfl⟩
  · refine ⟨some a, len, cap, rfl, hl, hm, fun h0 => ?_, fun h => by cases h⟩
    have hlm : len ≤ m := by rw [hmm]; split <;> omega
    have hrow : ∀ i, i < len → ∃ row, w.cells? base (a.add (i * ks.length)) ks.length = some row ∧ FitsRow ks row := by
      intro i hi
      obtain ⟨row, h1, h2⟩ := hel i (by omega)
      rw [hc] at h1
      exact ⟨row, h1, (trod_flat d e ks n row _ hf h2).2⟩
    obtain ⟨row0, h1, _⟩ := hrow 0 h0
    have h2 := World.cells?_some h1
    have hsp : a.spot = none ∧ a.block < w.heap.size := by
      obtain ⟨_, h3, h4⟩ := h2
      have h5 := h4 0 hn
      simp only [Nat.zero_mul, Addr.add, if_true] at h5
      cases hcc : w.cell? a with
      | none =>
        rw [hcc] at h5
        have : row0[0]? = some (row0[0]'(by omega)) := List.getElem?_eq_getElem _
        rw [this] at h5; cases h5
      | some v => exact ⟨World.cell?_spot hcc, World.block_lt_of_cell? w a hcc⟩
    obtain ⟨b, off, sp⟩ := a
    obtain ⟨hs, hb⟩ := hsp
    simp only at hs; subst hs
    refine ⟨b, off, rfl, hb, fun i hi => ?_⟩
    obtain ⟨row, h3, h4⟩ := hrow i hi
    refine ⟨row, ?_, h4⟩
    obtain ⟨_, h5, h6⟩ := World.cells?_some h3
    refine World.cellsAt_of h5 (fun j hj => ?_)
    have h7 := h6 j hj
    rw [← h7]
    congr 1
    simp only [Addr.add]
    split <;> split <;> simp_all <;> omega
end

theorem World.cellsAt_append {w : World} {b : Nat} : ∀ {m k o : Nat} {u v : List Value}, w.cellsAt ⟨b, o, none⟩ m = some u → w.cellsAt ⟨b, o + m, none⟩ k = some v → w.cellsAt ⟨b, o, none⟩ (m + k) = some (u ++ v) := by
  intro m k o u v h1 h2
  obtain ⟨l1, c1⟩ := World.cellsAt_some h1
  obtain ⟨l2, c2⟩ := World.cellsAt_some h2
  refine World.cellsAt_of (by simp [l1, l2]) (fun i hi => ?_)
  by_cases him : i < m
  · rw [List.getElem?_append_left (by omega)]; exact c1 rfl i him
  · rw [List.getElem?_append_right (by omega), l1]
    have := c2 rfl (i - m) (by omega)
    rwa [show o + m + (i - m) = o + i by omega] at this
theorem cellsAt_flat {α : Type} {w : World} {b : Nat} (f : α → List Value) (n : Nat) (hf : ∀ x, (f x).length = n) : ∀ (xs : List α) (o : Nat), (∀ i (h : i < xs.length), w.cellsAt ⟨b, o + i * n, none⟩ n = some (f (xs[i]'h))) → w.cellsAt ⟨b, o, none⟩ (xs.flatMap f).length = some (xs.flatMap f)
  | [], _, _ => rfl
  | x :: xs, o, h => by
    rw [List.flatMap_cons, List.length_append, hf]
    refine World.cellsAt_append ?_ ?_
    · have := h 0 (by simp)
      simpa using this
    · refine cellsAt_flat f n hf xs (o + n) (fun i hi => ?_)
      have := h (i + 1) (by simpa using hi)
      rw [Nat.add_mul] at this
      rw [show o + n + i * n = o + (i * n + 1 * n) by omega]
      simpa using this
theorem flat_choose {α : Type} {w : World} {a : Option Addr} {len : Nat} {ks : List TypeDesc} (d : α) (f : α → List Value) (hf : ∀ x, (f x).length = ks.length) (G : α → Prop) (hp : ∀ row, FitsRow ks row → ∃ x, row = f x ∧ G x)
    (h : 0 < len → ∃ b off, a = some ⟨b, off, none⟩ ∧ b < w.heap.size ∧ ∀ i, i < len → ∃ row, w.cellsAt ⟨b, off + i * ks.length, none⟩ ks.length = some row ∧ FitsRow ks row) :
    ∃ xs : List α, xs.length = len ∧ CellsIn w a (xs.flatMap f) ∧ ∀ x ∈ xs, G x := by
  by_cases h0 : 0 < len
  · obtain ⟨b, off, rfl, hb, hr⟩ := h h0
    obtain ⟨xs, hxl, hx⟩ := list_choose (α := α) d (n := len) (p := fun i c => w.cellsAt ⟨b, off + i * ks.length, none⟩ ks.length = some (f c) ∧ G c) (fun i hi => by
      obtain ⟨row, h1, h2⟩ := hr i hi
      obtain ⟨c, hc, hg⟩ := hp row h2
      exact ⟨c, by rw [← hc]; exact h1, hg⟩)
    refine ⟨xs, hxl, fun _ => ⟨b, off, rfl, cellsAt_flat f _ hf xs off (fun i hi => ?_)⟩, fun x hx' => ?_⟩
    · have := (hx i (by omega)).1
      simpa [List.getD, hi] using this
    · obtain ⟨i, hi, rfl⟩ := List.mem_iff_getElem.1 hx'
      have := (hx i (by omega)).2
      simpa [List.getD, hi] using this
  · exact ⟨[], by simp; omega, CellsIn.nil _ _, by simp⟩

structure SliceIn (α : Type) where
  a : Option Addr
  xs : List α
  cap : Nat
end Go
/- Opening arguments: bytes. -/
namespace Go.Proofs.YtnhmekdnfinmiaaGreatDoor
open Go.RowKit Go.ChangeShapes Go.WideShapes

theorem byte_of_row {cs : List Value} (h : FitsRow [.int .u8] cs) : ∃ b : UInt8, cs = [.int .u8 b.toNat] ∧ True := by
  obtain ⟨_, _, rfl, ⟨n0, rfl, w0⟩, h0⟩ := fitsRow_cons h
  obtain rfl := fitsRow_nil h0
  have hb := bounds_u8 w0
  refine ⟨UInt8.ofNat n0.toNat, ?_, trivial⟩
  rw [UInt8.toNat_ofNat_of_lt' (by show n0.toNat < 256; omega), Int.toNat_of_nonneg hb.1]
theorem bv_flat (l : List UInt8) : bv l = l.flatMap fun b => [.int .u8 b.toNat] := by
  induction l with
  | nil => rfl
  | cons b l ih => rw [List.flatMap_cons, ← ih]; rfl
section
variable {H : Type} {enc : TypeId × Value → H} {W : World} {base : Nat} {sp : Nat → Bool} {held : Bool} {v : Value} {d : DataW H} {p : List MemPlace}
set_option maxRecDepth 100000 in
theorem open_bytes (hv : Value.okWide Tryz.prog W .any base 22 v) (h : DataW.Trod enc Tryz.prog W 0 sp held 22 v d p) :
    ∃ S : SliceIn UInt8, v = .slice S.a S.xs.length S.cap ∧ (S.xs.length ≤ S.cap ∧ S.cap ≤ 9223372036854775807 ∧ CellsIn W S.a (bv S.xs) ∧ (S.a = none → S.cap = 0) ∧ ∀ q, S.a = some q → q.block < W.heap.size) := by
  obtain ⟨a0, len0, cap0, hv0⟩ := okWide_slice Tryz.underlying22 hv
  have hblk : ∀ q, a0 = some q → q.block < W.heap.size := fun q hq => by
    subst hq
    subst hv0
    simp only [Value.okWide, Tryz.underlying22, Cell.okWide, Cell.ok, World.has] at hv
    obtain ⟨-, -, -, -, row, cells, hsh, -⟩ := hv
    unfold World.shape? at hsh
    cases hb : W.heap[q.block]? with
    | none => rw [hb] at hsh; simp at hsh
    | some o => exact (Array.getElem?_eq_some_iff.1 hb).1
  obtain ⟨fuel, hf⟩ := h
  obtain ⟨a, len, cap, hcs, hl, hm, hrow, hn⟩ := flatSlice_open (d := 3) (ks := [.int .u8]) Tryz.underlying22 (by kernel_rfl) (by decide) (by kernel_rfl) hf
  rw [hv0] at hcs ⊢
  simp only [Value.cells, List.cons.injEq, Value.slice.injEq, and_true] at hcs
  obtain ⟨rfl, rfl, rfl⟩ := hcs
  obtain ⟨xs, hxl, hin, _⟩ := flat_choose (0 : UInt8) (fun b => [.int .u8 b.toNat]) (fun _ => rfl) (fun _ => True) (fun row h => byte_of_row h) hrow
  rw [← bv_flat] at hin
  exact ⟨⟨a0, xs, cap0⟩, by simp [hxl], by simp only; omega, by unfold maxLen at hm; exact hm, hin, hn, hblk⟩
end
end Go.Proofs.YtnhmekdnfinmiaaGreatDoor
