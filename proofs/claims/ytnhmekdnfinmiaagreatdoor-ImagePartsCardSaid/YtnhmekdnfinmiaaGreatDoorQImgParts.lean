/- Texts of this proof, merged (printed by wip/pmerge.py out of ImgParts). -/
import Derived.Test.YtnhmekdnfinmiaaGreatDoorQ8
import Derived.Test.YtnhmekdnfinmiaaGreatDoorQSameB
import Derived.Test.YtnhmekdnfinmiaaGreatDoorAbM17
/- The walk of the law ImageParts. -/
namespace Go.Proofs.YtnhmekdnfinmiaaGreatDoor
open Go.RowKit Go.Par
set_option linter.unusedSimpArgs false
set_option linter.unusedVariables false
def noParts : PParts := ⟨0, 0, 0, 0, 0, 0, [], [], [], [], [], [], false, zId, []⟩
theorem zparts_in (w : World) : PartsV w (.agg zparts) noParts := by
  have nilc : CellsIn w none [] := CellsIn.nil w none
  refine ⟨.slice none 0 0, .slice none 0 0, .slice none 0 0, .slice none 0 0, .slice none 0 0, .slice none 0 0, rfl, rfl, ⟨none, 0, rfl, by simp [noParts], by omega, nilc⟩, ⟨none, 0, rfl, by simp [noParts], by omega, nilc⟩, ⟨none, 0, rfl, by simp [noParts], by omega, nilc⟩, ⟨none, 0, [], rfl, by simp [noParts], by omega, nilc, rfl, fun i h => absurd h (by simp)⟩, ⟨none, 0, [], rfl, by simp [noParts], by omega, nilc, rfl, fun i h => absurd h (by simp)⟩, ⟨none, 0, [], rfl, by simp [noParts], by omega, nilc, fun o ho => absurd ho (by simp), rfl⟩⟩
theorem refErr_keep {S : Nat → Addr} {W W' : World} {g : Nat} {r : Ref} {v : Value} (h : ErrAt S W (refErr r) v) (hg : GrewX [g] W W') (hk : ∀ c, W.heap[g]? ≠ some (.cells c 124 (0, 0))) : ErrAt S W' (refErr r) v := by
  have kp : ∀ {b : Nat} {c : Array Value}, W.heap[b]? = some (.cells c 124 (0, 0)) → W'.heap[b]? = some (.cells c 124 (0, 0)) := fun {b c} hb => hg.heap hb (fun hm => by
    rw [List.mem_singleton] at hm
    subst hm
    exact hk c hb)
  cases r with
  | wire c p k =>
    cases (show ErrAt S W (.fault bImage bParts p (.fault bWire c p (.reason k))) v from h) with
    | fault hb he => cases he with
      | fault hb2 he2 => cases he2 with
        | reason _ a b => exact .fault (kp hb) (.fault (kp hb2) (.reason _ a b))
  | form p =>
    cases (show ErrAt S W (.fault bImage bParts p (.reason 6)) v from h) with
    | fault hb he => cases he with
      | reason _ a b => exact .fault (kp hb) (.reason _ a b)
theorem parts_both {S : Nat → Addr} {l : List UInt8} {W1 W2 : World} {Y : Nat} {w0 : World} {e e' : Ending} (hYk : ∀ c, W2.heap[Y]? ≠ some (.cells c 124 (0, 0))) (hd : DPartsV W1 (dParts l ⟨0, none⟩) e) (hi : IParts S w0 Y (pParts l 0) e' W2) :
    ∃ (v v' n n' : Value) (x : PParts), e = .returned (.tuple #[v, n]) ∧ e' = .returned (.tuple #[v', n']) ∧ PartsV W1 v x ∧ (∀ W', GrewX [Y] W2 W' → PartsV W' v' x) ∧ (∀ W, Grew W1 W → GrewX [Y] W2 W → Sents S W → Calls Tryz.prog 9 #[n', n] W fun x w' => x = .returned (.bool true) ∧ Grew W w') ∧ (∃ a b c, n = .agg #[a, b, c]) ∧ (∃ pcs, v = .agg pcs ∧ pcs.size = 160) ∧ (∃ pcs, v' = .agg pcs ∧ pcs.size = 160) := by
  have ha := parts_agree l
  cases hp : pParts l 0 with
  | ok xx =>
    obtain ⟨x, q⟩ := xx
    have hok := ha.ok 0 x q hp
    rw [hok] at hd
    rw [hp] at hi
    obtain ⟨v, rfl, hv⟩ := hd
    obtain ⟨-, v', rfl, hv'⟩ := hi
    obtain ⟨p1, e1, s1, -⟩ := PartsV.agg hv
    obtain ⟨p2, e2, s2, -⟩ := (hv' W2 (GrewX.refl _ _)).agg
    exact ⟨v, v', _, _, x, rfl, rfl, hv, hv', fun W _ _ _ => refused_none none none 0 0 0 0 W, ⟨_, _, _, rfl⟩, ⟨p1, e1, s1⟩, ⟨p2, e2, s2⟩⟩
  | error r =>
    obtain ⟨hno, -⟩ := ha.no 0 r hp
    have hf := parts_few l 0 r hp
    rw [hp] at hi
    obtain ⟨-, v', rfl, hv'⟩ := hi
    unfold DPartsV at hd
    rw [hno] at hd
    obtain ⟨v, rfl, hv⟩ := hd
    have hva : ∃ a b c, v = .agg #[a, b, c] := by obtain ⟨a1, c1, a2, c2, rfl, -⟩ := hv; exact ⟨_, _, _, rfl⟩
    exact ⟨_, _, v, v', noParts, rfl, rfl, zparts_in _, fun W' _ => zparts_in _, fun W h1 h2 hS => refused_ref hS hf (refErr_keep hv' h2 hYk) (hv.grew h1), hva, ⟨_, rfl, zparts_size⟩, ⟨_, rfl, zparts_size⟩⟩
theorem DPartsV.shape {W : World} {r : PParts × DSt} {e : Ending} (h : DPartsV W r e) : ∃ p n0 n1 n2, e = .returned (.tuple #[.agg p, .agg #[n0, n1, n2]]) ∧ p.size = 160 ∧ p.all (·.oneCell') = true ∧ n0.oneCell' = true ∧ n1.oneCell' = true ∧ n2.oneCell' = true := by
  unfold DPartsV at h
  split at h
  · obtain ⟨v, rfl, hv⟩ := h
    obtain ⟨p1, rfl, s1, o1⟩ := PartsV.agg hv
    exact ⟨p1, _, _, _, rfl, s1, o1, rfl, rfl, rfl⟩
  · obtain ⟨v, rfl, hv⟩ := h
    obtain ⟨a1, c1, a2, c2, rfl, -⟩ := hv
    exact ⟨zparts, _, _, _, rfl, zparts_size, zparts_ones, rfl, rfl, rfl⟩
theorem laid_fill {W V : World} {B : Nat} {c p : Array Value} {t : TypeId} (hb : W.heap[B]? = some (.cells c t (0, 0))) (hs : c.size = p.size) (hV : V = W.setCells B 0 p.toList) : V.heap[B]? = some (.cells p t (0, 0)) ∧ GrewX [B] W V := by
  subst hV
  refine ⟨?_, setCells_gx _ _ _⟩
  have := setCells_own p.toList W 0 _ hb
  rwa [putA_all _ _ hs] at this
set_option maxRecDepth 1000000 in
set_option maxHeartbeats 4000000 in
theorem imageParts_walk {S : Nat → Addr} {w : World} (hS : Sents S w) (a : Option Addr) (l : List UInt8) (cap : Nat) (ha : CellsIn w a (bv l)) (hcap : l.length ≤ cap) (hm : cap ≤ 9223372036854775807) (hnil : a = none → cap = 0) (hal : ∀ q, a = some q → q.block < w.heap.size) :
    Calls Tryz.prog 3 #[.slice a l.length cap] w fun e w' => e = .returned (.bool true) ∧ Grew w w' := by
  have hl2 : (l.take 4000).length ≤ 4000 := by simp; omega
  have hcap2 : (l.take 4000).length ≤ cap := by simp; omega
  have hin2 : CellsIn w a (bv (l.take 4000)) := by rw [bv_take]; exact ha.take 4000
  have CL := Lib.hid (clip17_any a cap l w hcap hm)
  generalize l.take 4000 = r at *
  have DP := Lib.hid (d_parts hin2 hl2 ⟨hcap2, hm⟩ hal)
  have HIN := Lib.hid (And.intro hin2 (And.intro hl2 (And.intro hcap2 (And.intro hm hnil))))
  have HS := Lib.hid hS
  clear ha hin2 hl2 hcap2 hnil hal hS hcap
  generalize hrl : r.length = n at *
  have HRL := Lib.hid hrl
  clear hrl
  go_enter Tryz.func3, Tryz.ntmps3
  go_wp2_with fail
  refine CL.out.mono ?_
  rintro e w' ⟨rfl, rfl⟩
  go_wp2_with fail
  refine DP.out.mono ?_
  rintro e w1 ⟨hg1, hd⟩
  obtain ⟨p1, n0, n1, n2, rfl, s1, o1, o20, o21, o22⟩ := hd.shape
  have HD := Lib.hid (And.intro hg1 hd)
  have HO := Lib.hid (And.intro s1 (And.intro o1 (And.intro o20 (And.intro o21 o22))))
  clear hg1 hd s1 o1 o20 o21 o22 CL DP
  have hz : ((w1.alloc (.cells Tryz.zeroCells41 41)).alloc (.cells #[.int .i64 0, .slice none 0 0, .slice none 0 0] 45)).heap[w1.heap.size]? = some (.cells zparts 41 (0, 0)) := by
    rw [zparts_is, heap_alloc_past _ _ _ (by rw [alloc_size1]; omega)]; exact heap_alloc_new w1 _
  have hy : ((w1.alloc (.cells Tryz.zeroCells41 41)).alloc (.cells #[.int .i64 0, .slice none 0 0, .slice none 0 0] 45)).heap[w1.heap.size + 1]? = some (.cells #[.int .i64 0, .slice none 0 0, .slice none 0 0] 45 (0, 0)) := heap_alloc_at _ _ _ (by rw [alloc_size1])
  have hf := laid_fill (p := p1) hz (by rw [zparts_size, HO.out.1]) rfl
  have hy2 := hf.2.heap hy (by simp)
  obtain ⟨W3, hW3⟩ : ∃ W3, W3 = (((w1.alloc (.cells Tryz.zeroCells41 41)).alloc (.cells #[.int .i64 0, .slice none 0 0, .slice none 0 0] 45)).setCells w1.heap.size 0 p1.toList).setCells (w1.heap.size + 1) 0 [n0, n1, n2] := ⟨_, rfl⟩
  have hh := laid_fill (V := W3) (p := #[n0, n1, n2]) hy2 rfl hW3
  have HW3 := Lib.hid hW3
  have HF := Lib.hid (And.intro (hh.2.heap hf.1 (by simp)) (And.intro hh.1 (GrewX.toGrew (hh.2.mono (ks' := [w1.heap.size, w1.heap.size + 1]) (by simp)) (GrewX.toGrew (hf.2.mono (ks' := [w1.heap.size, w1.heap.size + 1]) (by simp)) (((Grew.refl w1).alloc _).alloc _) (by simp)) (by simp))))
  have HT2 := Lib.hid (And.intro (there_mid hz 0 160 (by rw [zparts_size]; decide)) (there_mid hy2 0 3 (by decide)))
  have HOA : Hid ((#[n0, n1, n2] : Array Value).all (·.oneCell') = true) := Lib.hid (by simp [HO.out.2.2.1, HO.out.2.2.2.1, HO.out.2.2.2.2])
  clear hz hy hf hy2 hh hW3
  go_upto_region 3 with (first
    | (refine wpList_store_mid (by rfl) 41 (.tmp 3) (.tmp 13) (by rfl) w1.heap.size 0 p1 (by rfl) (by rfl) (by rw [HO.out.1]; exact HT2.out.1) (by rw [HO.out.1]; exact info_parts) HO.out.2.1 ?_)
    | (refine wpList_store_mid (by rfl) 45 (.tmp 4) (.tmp 14) (by rfl) (w1.heap.size + 1) 0 #[n0, n1, n2] (by rfl) (by rfl) (by exact HT2.out.2) (by kernel_rfl) HOA.out ?_))
  rw [← HW3.out]
  clear HW3 HT2 HOA
  generalize w1.heap.size = B at *
  have hgw3 : Grew _ W3 := HD.out.1.trans HF.out.2.2
  have LB := lend_any a cap r W3 (HIN.out.1.grew hgw3) (by rw [HRL.out]; exact HIN.out.2.2.1) HIN.out.2.2.2.1 HIN.out.2.2.2.2 (by have := HIN.out.2.1; have := HRL.out; omega)
  rw [HRL.out] at LB
  have LB := Lib.hid LB
  have HG3 := Lib.hid hgw3
  clear hgw3
  go_wp2_with fail
  refine LB.out.mono ?_
  rintro e w4 ⟨g, c, rfl, hown, hg4⟩
  have hlg := hown.lt g rfl
  have hcc := hown.caps
  have hc4 : CellsIn w4 (some ⟨g, 0, none⟩) (bv r) := by
    have := hown.cin.take r.length
    rwa [bv_append, List.take_left' (bv_length r)] at this
  have hyk : ∀ c, w4.heap[g]? ≠ some (.cells c 124 (0, 0)) := fun c' hc' => by
    obtain ⟨-, ⟨h1, -⟩ | ⟨g', cap', cur, h1, -, h3, -⟩⟩ := hown
    · cases h1
    · cases h1; rw [h3] at hc'; cases hc'
  have IP := image_parts (HS.out.grew (HG3.out.trans hg4)) (cap := c) hc4 (by have := HIN.out.2.1; have := HRL.out; omega) hlg.2
  rw [HRL.out] at IP
  have IP := Lib.hid IP
  have H4 := Lib.hid (And.intro hown (And.intro hg4 hyk))
  clear hown hg4 hyk hc4 LB
  go_wp2_with fail
  refine IP.out.mono ?_
  rintro e w5 hi
  have hg5 : Grew w4 w5 := hi.1
  obtain ⟨v, v2, nn, en, x, e1, rfl, hv, hv2, hrf, -, -, p2, rfl, s2⟩ := parts_both (fun c hc => H4.out.2.2 c (by rw [← hg5.block g hlg.2]; exact hc)) HD.out.2 hi
  cases e1
  obtain ⟨p3, e3, -, o2⟩ := (hv2 w5 (GrewX.refl _ _)).agg
  rw [show p3 = p2 from by cases e3; rfl] at o2
  clear e3
  have HO2 := Lib.hid (And.intro s2 o2)
  have H5 := Lib.hid (And.intro hg5 (And.intro hv (And.intro hv2 hrf)))
  clear hg5 hv hv2 hrf s2 o2 hi IP
  have hz : (w5.alloc (.cells Tryz.zeroCells41 41)).heap[w5.heap.size]? = some (.cells zparts 41 (0, 0)) := by
    rw [zparts_is]; exact heap_alloc_new w5 _
  obtain ⟨W6, hW6⟩ : ∃ W6, W6 = (w5.alloc (.cells Tryz.zeroCells41 41)).setCells w5.heap.size 0 p2.toList := ⟨_, rfl⟩
  have hf := laid_fill (p := p2) hz (by rw [zparts_size, HO2.out.1]) hW6
  have H6 := Lib.hid (And.intro hf.1 (show Grew w5 W6 from GrewX.toGrew hf.2 ((Grew.refl w5).alloc _) (by simp)))
  have HT6 := Lib.hid (there_mid hz 0 160 (by rw [zparts_size]; decide))
  have HW6 := Lib.hid hW6
  clear hz hf hW6
  go_upto_region 5 with (refine wpList_store_mid (by rfl) 41 (.tmp 6) (.tmp 20) (by rfl) w5.heap.size 0 p2 (by rfl) (by rfl) (by rw [HO2.out.1]; exact HT6.out) (by rw [HO2.out.1]; exact info_parts) HO2.out.2 ?_)
  rw [← HW6.out]
  have HLEN : Hid (p1.toList.length = 160 ∧ p2.toList.length = 160) := Lib.hid ⟨by rw [Array.length_toList]; exact HO.out.1, by rw [Array.length_toList]; exact HO2.out.1⟩
  clear HW6 HT6 HO HO2
  have hC4 : w4.heap.size ≤ w5.heap.size := H5.out.1.size
  generalize w5.heap.size = C at *
  have hg46 : Grew w4 W6 := H5.out.1.trans H6.out.2
  have hg36 : Grew W3 W6 := H4.out.2.1.trans hg46
  have IN := intact_any g c W3.heap.size a cap r W6 W3 (by rw [HRL.out]; exact H4.out.1.grew hg46) (HIN.out.1.grew (HG3.out.trans hg36)) (by have := HIN.out.2.1; have := HRL.out; omega) hg36 (Nat.le_refl _)
  rw [HRL.out] at IN
  have IN := Lib.hid IN
  have lB : B + 1 < W3.heap.size := (Array.getElem?_eq_some_iff.1 HF.out.2.1).1
  have c1 := Grew.heap hg36 HF.out.1
  have c2 := Grew.heap hg36 HF.out.2.1
  have HC := Lib.hid (And.intro c1 (And.intro c2 (And.intro H6.out.1 (And.intro hg36 (And.intro lB (And.intro hlg hC4))))))
  clear hC4 hg46 hg36 c1 c2 lB hlg hcc
  go_wp2_with fail
  refine IN.out.mono ?_
  rintro e w7 ⟨rfl, h1, h2, h3⟩
  have hnum := HC.out.2.2.2.2
  have b1 := (h3 B (by omega)).trans HC.out.1
  have b2 := (h3 (B + 1) (by omega)).trans HC.out.2.1
  have b3 := (h3 C (by omega)).trans HC.out.2.2.1
  have x7 := World.cellsAt_block b2 3 rfl
  have g7 : GrewX [g] W6 w7 := ⟨h1.os.trans HC.out.2.2.2.1.os.symm, h1.tape.trans HC.out.2.2.2.1.tape.symm, h1.output.trans HC.out.2.2.2.1.output.symm, by omega, fun k hk hn => h3 k (by simpa using hn)⟩
  have RF := Lib.hid (H5.out.2.2.2 w7 (HF.out.2.2.trans h1) ((GrewX.of_grew H6.out.2).trans g7) (HS.out.grew (HG3.out.trans h1)))
  have H7 := Lib.hid (And.intro b1 (And.intro b3 (And.intro g7 (And.intro h1 h2))))
  have l7 : C < w7.heap.size := (Array.getElem?_eq_some_iff.1 b3).1
  have lb7 : B < w7.heap.size := (Array.getElem?_eq_some_iff.1 b1).1
  clear b1 b2 b3 g7 h1 h2 h3 IN hnum
  go_wp2_with fail
  refine RF.out.mono ?_
  rintro e w' ⟨rfl, gx, rfl⟩
  have HR := Lib.hid (And.intro ((range_all H7.out.2.1).plus gx l7) ((range_all H7.out.1).plus gx lb7))
  have SE := Lib.hid (same_eq (w := w7.plus gx) (H5.out.2.2.1 _ (((GrewX.of_grew H6.out.2).trans H7.out.2.2.1).plus gx)) (PartsV.grew H5.out.2.1 ((HF.out.2.2.trans H7.out.2.2.2.1).trans (by repeat (first | with_reducible exact HG.out | with_reducible exact Grew.refl _ | with_reducible assumption | with_reducible apply Grew.plus | with_reducible apply Grew.drewN | with_reducible apply Grew.drew | with_reducible apply Grew.alloc | with_reducible refine Grew.setCell ?_ (by simp [go_sem]; try omega) _)))))
  have HSZ : Hid (p1.toList.length = 160 ∧ p2.toList.length = 160) := HLEN
  go_wp2_with fail
  refine wp_load_mid 41 (.tmp 6) (by rfl) C 0 (by rfl) p2.toList _ HR.out.1 Tryz.underlying41 rfl (by rw [HSZ.out.2]; exact info_parts) ?_
  go_wp2_with fail
  refine wp_load_mid 41 (.tmp 3) (by rfl) B 0 (by rfl) p1.toList _ HR.out.2 Tryz.underlying41 rfl (by rw [HSZ.out.1]; exact info_parts) ?_
  go_wp2_with fail
  refine SE.out.mono ?_
  rintro e w' ⟨rfl, gy, rfl⟩
  go_wp2_with fail
  refine (wakes17 _).mono ?_
  rintro e w' ⟨rfl, gz, rfl⟩
  go_wp2_with fail
  go_ret
  exact ⟨rfl, (HG3.out.trans H7.out.2.2.2.1).trans (by repeat (first | with_reducible exact HG.out | with_reducible exact Grew.refl _ | with_reducible assumption | with_reducible apply Grew.plus | with_reducible apply Grew.drewN | with_reducible apply Grew.drew | with_reducible apply Grew.alloc | with_reducible refine Grew.setCell ?_ (by simp [go_sem]; try omega) _))⟩
end Go.Proofs.YtnhmekdnfinmiaaGreatDoor
