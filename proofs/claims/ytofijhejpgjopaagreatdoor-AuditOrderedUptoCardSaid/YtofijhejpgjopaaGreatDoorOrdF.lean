/- Walks: the document's First. -/
import Derived.Test.YtofijhejpgjopaaGreatDoorOrdR
namespace Go.Proofs.YtofijhejpgjopaaGreatDoor
open Go.RowKit Go.Maps
set_option linter.unusedSimpArgs false
set_option linter.unusedVariables false

theorem chain33 {Q : World → Prop} {W2 : World} {B C : Nat} {o0 o1 o2 p0 p1 p2 c0 c1 c2 d0 d1 d2 : Value} {t : TypeId} (hne : C ≠ B) (hB : W2.heap[B]? = some (.cells #[o0, o1, o2] t (0, 0))) (hC : W2.heap[C]? = some (.cells #[p0, p1, p2] t (0, 0)))
    (k : ∀ W9 : World, W9.heap[B]? = some (.cells #[c0, c1, c2] t (0, 0)) → W9.heap[C]? = some (.cells #[d0, d1, d2] t (0, 0)) → (∀ W0 : World, W0.heap.size ≤ B → W0.heap.size ≤ C → Grew W0 W2 → Grew W0 W9) → Q W9) :
    Q ((((((W2.setCell ⟨B, 0, none⟩ c0).setCell ⟨B, 1, none⟩ c1).setCell ⟨B, 2, none⟩ c2).setCell ⟨C, 0, none⟩ d0).setCell ⟨C, 1, none⟩ d1).setCell ⟨C, 2, none⟩ d2) := by
  have k1 := World.own_setCell (i := 0) hB c0
  have k2 := World.own_setCell (i := 1) k1 c1
  have k3 := World.own_setCell (i := 2) k2 c2
  have j0 : (((W2.setCell ⟨B, 0, none⟩ c0).setCell ⟨B, 1, none⟩ c1).setCell ⟨B, 2, none⟩ c2).heap[C]? = some (.cells #[p0, p1, p2] t (0, 0)) := by
    rw [World.block_setCell _ _ _ _ hne, World.block_setCell _ _ _ _ hne, World.block_setCell _ _ _ _ hne]; exact hC
  have j1 := World.own_setCell (i := 0) j0 d0
  have j2 := World.own_setCell (i := 1) j1 d1
  have j3 := World.own_setCell (i := 2) j2 d2
  refine k _ ?_ j3 (fun W0 h0 h1 g => (((((g.setCell (p := ⟨B, 0, none⟩) h0 c0).setCell (p := ⟨B, 1, none⟩) h0 c1).setCell (p := ⟨B, 2, none⟩) h0 c2).setCell (p := ⟨C, 0, none⟩) h1 d0).setCell (p := ⟨C, 1, none⟩) h1 d1).setCell (p := ⟨C, 2, none⟩) h1 d2)
  rw [World.block_setCell _ _ _ _ (Ne.symm hne), World.block_setCell _ _ _ _ (Ne.symm hne), World.block_setCell _ _ _ _ (Ne.symm hne)]
  exact k3

set_option maxRecDepth 100000 in
set_option maxHeartbeats 4000000 in
theorem rfirst_any (l m : List ElD) (a b : Option Addr) (ca cb : Nat) (w : World) (ha : CellsIn w a (l.flatMap elRow)) (hb : CellsIn w b (m.flatMap elRow)) (hf : ∀ e ∈ l, e.Fits) (hfm : ∀ e ∈ m, e.Fits) (hl : l.length ≤ 1000000) (hm : m.length ≤ 1000000) :
    Calls Tryz.prog 24 #[.slice a l.length ca, .slice b m.length cb] w fun e w' => e = .returned (fpVal (fp (sh l m))) ∧ Grew w w' := by
  have HA := Lib.hid ha
  have HF := Lib.hid hf
  have HI := Lib.hid (fun W (hW : Grew w W) e0 e1 e2 hid => rindex_any l a ca W (ha.grew hW) hf hl e0 e1 e2 hid)
  have HJ := Lib.hid (fun W (hW : Grew w W) e0 e1 e2 hid => rindex_any m b cb W (hb.grew hW) hfm hm e0 e1 e2 hid)
  clear ha hf hb hfm
  have h1a : ∀ (W : World) (o : Obj), (W.alloc o).heap.size = W.heap.size + 1 := fun W o => by simp [go_sem]
  go_enter Tryz.func24, Tryz.ntmps24
  go_wp2_with fail
  go_loopw [7] (fun s7 wr => ∃ (i : Nat), i ≤ l.length ∧ s7 = .int .i64 i ∧ fp (sh l m) = fp (shG m (l.take i) (l.drop i)) ∧ wr.heap[w.heap.size]? = some (.cells #[.int .i64 0, .int .i64 0, .int .i64 0] 43 (0, 0)) ∧ wr.heap[w.heap.size + 1]? = some (.cells #[.int .i64 0, .int .i64 0, .int .i64 0] 43 (0, 0)) ∧ Grew w wr) (fun s7 _ => l.length - (intOf s7).toNat)
  case atStart => exact ⟨0, by omega, rfl, rfl, by rw [heap_alloc_past _ _ _ (by rw [h1a]; omega)]; exact heap_alloc_at _ _ _ rfl, heap_alloc_at _ _ _ (by rw [h1a]), by repeat (first | with_reducible exact HG.out | with_reducible exact Grew.refl _ | with_reducible assumption | with_reducible apply Grew.plus | with_reducible apply Grew.drewN | with_reducible apply Grew.drew | with_reducible apply Grew.alloc | with_reducible refine Grew.setCell ?_ (by simp [go_sem]; try omega) _)⟩
  case round =>
    obtain ⟨i, hi, rfl, hn, hx, hy, hg⟩ := hrel
    have HG := Lib.hid hg
    have HX := Lib.hid hx
    have HY := Lib.hid hy
    by_cases hlt : i < l.length
    · obtain ⟨B, off, rfl, hbl, hrow⟩ := CellsIn.rowAt elRow 5 elRow_len (by omega) HA.out (by omega)
      have q := cellsAt_later hg (hrow i hlt) hbl
      have hfe := (HF.out l[i] (List.getElem_mem hlt)).id
      have hcall := fun W (hW : Grew w W) => HI.out W hW l[i].ep l[i].rp l[i].nb hfe
      have hcbll := fun W (hW : Grew w W) => HJ.out W hW l[i].ep l[i].rp l[i].nb hfe
      simp only [show (⟨l[i].ep, l[i].rp, l[i].nb⟩ : IdD) = l[i].id from rfl] at hcall hcbll
      cases hp : pf (l.take i) l[i].id with
      | some p =>
        have ho := pf_old i hlt hp
        simp only [index_old hp] at hcall
        rw [shG_old m l i hlt hp] at hn
        obtain ⟨z, hz⟩ : ∃ z : Int, z = (pf m l[i].id).getD (-1) := ⟨_, rfl⟩
        rw [← hz] at hcbll
        have g1 : decide (p < (i : Int)) = true := by simp; omega
        have HC := Lib.hid hcall
        have HD := Lib.hid hcbll
        have HN := Lib.hid hn
        clear ho hn hg hx hy hrow hcall hcbll hfe hp hz
        generalize l[i] = x at *
        obtain ⟨e0, e1, e2, ch, hd⟩ := x
        simp only [elRow] at q
        simp only at HC HD
        have q3 : wr.cellsAt ⟨B, off + i * 5, none⟩ 3 = some [.int .i64 e0, .int .i64 e1, .int .i64 e2] := World.cellsAt_sub q 0 3 (by omega)
        go_wp2_with (go_at_call 47; (first
          | ((with_reducible refine (HC.out _ (HG.out.trans (by repeat (first | with_reducible exact HG.out | with_reducible exact Grew.refl _ | with_reducible assumption | with_reducible apply Grew.plus | with_reducible apply Grew.drewN | with_reducible apply Grew.drew | with_reducible apply Grew.alloc | with_reducible refine Grew.setCell ?_ (by simp [go_sem]; try omega) _)))).mono ?_); rintro e w' ⟨rfl, gx, rfl⟩)
          | ((with_reducible refine (HD.out _ (HG.out.trans (by repeat (first | with_reducible exact HG.out | with_reducible exact Grew.refl _ | with_reducible assumption | with_reducible apply Grew.plus | with_reducible apply Grew.drewN | with_reducible apply Grew.drew | with_reducible apply Grew.alloc | with_reducible refine Grew.setCell ?_ (by simp [go_sem]; try omega) _)))).mono ?_); rintro e w' ⟨rfl, gx, rfl⟩)))
        go_roundw
        case rel => exact ⟨i + 1, by omega, by go_num, HN.out, Grew.heap (show Grew wr _ from by repeat (first | with_reducible exact HG.out | with_reducible exact Grew.refl _ | with_reducible assumption | with_reducible apply Grew.plus | with_reducible apply Grew.drewN | with_reducible apply Grew.drew | with_reducible apply Grew.alloc | with_reducible refine Grew.setCell ?_ (by simp [go_sem]; try omega) _)) HX.out, Grew.heap (show Grew wr _ from by repeat (first | with_reducible exact HG.out | with_reducible exact Grew.refl _ | with_reducible assumption | with_reducible apply Grew.plus | with_reducible apply Grew.drewN | with_reducible apply Grew.drew | with_reducible apply Grew.alloc | with_reducible refine Grew.setCell ?_ (by simp [go_sem]; try omega) _)) HY.out, HG.out.trans (by repeat (first | with_reducible exact HG.out | with_reducible exact Grew.refl _ | with_reducible assumption | with_reducible apply Grew.plus | with_reducible apply Grew.drewN | with_reducible apply Grew.drew | with_reducible apply Grew.alloc | with_reducible refine Grew.setCell ?_ (by simp [go_sem]; try omega) _))⟩
        case measure => simp [intOf]; omega
      | none =>
        simp only [index_new hp] at hcall
        cases hpm : pf m l[i].id with
        | none =>
          rw [shG_out m l i hlt hpm] at hn
          simp only [hpm, Option.getD_none] at hcbll
          have HC := Lib.hid hcall
          have HD := Lib.hid hcbll
          have HN := Lib.hid hn
          clear hn hg hx hy hrow hcall hcbll hfe hp hpm
          generalize l[i] = x at *
          obtain ⟨e0, e1, e2, ch, hd⟩ := x
          simp only [elRow] at q
          simp only at HC HD
          have q3 : wr.cellsAt ⟨B, off + i * 5, none⟩ 3 = some [.int .i64 e0, .int .i64 e1, .int .i64 e2] := World.cellsAt_sub q 0 3 (by omega)
          go_wp2_with (go_at_call 47; (first
            | ((with_reducible refine (HC.out _ (HG.out.trans (by repeat (first | with_reducible exact HG.out | with_reducible exact Grew.refl _ | with_reducible assumption | with_reducible apply Grew.plus | with_reducible apply Grew.drewN | with_reducible apply Grew.drew | with_reducible apply Grew.alloc | with_reducible refine Grew.setCell ?_ (by simp [go_sem]; try omega) _)))).mono ?_); rintro e w' ⟨rfl, gx, rfl⟩)
            | ((with_reducible refine (HD.out _ (HG.out.trans (by repeat (first | with_reducible exact HG.out | with_reducible exact Grew.refl _ | with_reducible assumption | with_reducible apply Grew.plus | with_reducible apply Grew.drewN | with_reducible apply Grew.drew | with_reducible apply Grew.alloc | with_reducible refine Grew.setCell ?_ (by simp [go_sem]; try omega) _)))).mono ?_); rintro e w' ⟨rfl, gx, rfl⟩)))
          go_roundw
          case rel => exact ⟨i + 1, by omega, by go_num, HN.out, Grew.heap (show Grew wr _ from by repeat (first | with_reducible exact HG.out | with_reducible exact Grew.refl _ | with_reducible assumption | with_reducible apply Grew.plus | with_reducible apply Grew.drewN | with_reducible apply Grew.drew | with_reducible apply Grew.alloc | with_reducible refine Grew.setCell ?_ (by simp [go_sem]; try omega) _)) HX.out, Grew.heap (show Grew wr _ from by repeat (first | with_reducible exact HG.out | with_reducible exact Grew.refl _ | with_reducible assumption | with_reducible apply Grew.plus | with_reducible apply Grew.drewN | with_reducible apply Grew.drew | with_reducible apply Grew.alloc | with_reducible refine Grew.setCell ?_ (by simp [go_sem]; try omega) _)) HY.out, HG.out.trans (by repeat (first | with_reducible exact HG.out | with_reducible exact Grew.refl _ | with_reducible assumption | with_reducible apply Grew.plus | with_reducible apply Grew.drewN | with_reducible apply Grew.drew | with_reducible apply Grew.alloc | with_reducible refine Grew.setCell ?_ (by simp [go_sem]; try omega) _))⟩
          case measure => simp [intOf]; omega
        | some p =>
          have hbp := pf_bound hpm
          have hb1 := hbp.1
          have hb2 := hbp.2
          rw [shG_new m l i hlt hp hpm, fp_cons] at hn
          simp only [hpm, Option.getD_some] at hcbll
          have HC := Lib.hid hcall
          have HD := Lib.hid hcbll
          have HN := Lib.hid hn
          have HR := Lib.hid hrow
          have hfe' := Lib.hid hfe
          clear hn hg hx hy hrow hcall hcbll hfe hp hpm hbp
          obtain ⟨x, hx⟩ : ∃ x, x = l[i] := ⟨_, rfl⟩
          rw [← hx] at q HC HD HN hfe'
          have HXI := Lib.hid hx
          clear hx
          obtain ⟨e0, e1, e2, ch, hd⟩ := x
          simp only [elRow] at q
          simp only at HC HD
          simp only [ElD.id] at HN hfe'
          have q3 : wr.cellsAt ⟨B, off + i * 5, none⟩ 3 = some [.int .i64 e0, .int .i64 e1, .int .i64 e2] := World.cellsAt_sub q 0 3 (by omega)
          go_wp2_with (go_at_call 47; (first
            | ((with_reducible refine (HC.out _ (HG.out.trans (by repeat (first | with_reducible exact HG.out | with_reducible exact Grew.refl _ | with_reducible assumption | with_reducible apply Grew.plus | with_reducible apply Grew.drewN | with_reducible apply Grew.drew | with_reducible apply Grew.alloc | with_reducible refine Grew.setCell ?_ (by simp [go_sem]; try omega) _)))).mono ?_); rintro e w' ⟨rfl, gx, rfl⟩)
            | ((with_reducible refine (HD.out _ (HG.out.trans (by repeat (first | with_reducible exact HG.out | with_reducible exact Grew.refl _ | with_reducible assumption | with_reducible apply Grew.plus | with_reducible apply Grew.drewN | with_reducible apply Grew.drew | with_reducible apply Grew.alloc | with_reducible refine Grew.setCell ?_ (by simp [go_sem]; try omega) _)))).mono ?_); rintro e w' ⟨rfl, gx, rfl⟩)))
          obtain ⟨wo, hwo⟩ : ∃ wo : World, wo = wr := ⟨_, rfl⟩
          subst hwo
          go_loopw [9] (fun s9 wr => ∃ (k : Nat), i + 1 ≤ k ∧ k ≤ l.length ∧ s9 = .int .i64 k ∧ fp (sh l m) = fpx p ⟨e0, e1, e2⟩ (shG m (l.take k) (l.drop k)) (fp (shG m (l.take (i + 1)) (l.drop (i + 1)))) ∧ Grew wo wr) (fun s9 _ => l.length - (intOf s9).toNat)
          case atStart => exact ⟨i + 1, by omega, by omega, by go_num, HN.out, by repeat (first | with_reducible exact HG.out | with_reducible exact Grew.refl _ | with_reducible assumption | with_reducible apply Grew.plus | with_reducible apply Grew.drewN | with_reducible apply Grew.drew | with_reducible apply Grew.alloc | with_reducible refine Grew.setCell ?_ (by simp [go_sem]; try omega) _)⟩
          case round =>
            obtain ⟨k, hik, hk, rfl, hn, hgv⟩ := hrel
            have HGV := Lib.hid hgv
            by_cases hltk : k < l.length
            · have v := cellsAt_later (HG.out.trans hgv) (HR.out k hltk) hbl
              have u := cellsAt_later (HG.out.trans hgv) (HR.out i hlt) hbl
              have hfk := (HF.out l[k] (List.getElem_mem hltk)).id
              have hcall := fun W (hW : Grew w W) => HI.out W hW l[k].ep l[k].rp l[k].nb hfk
              have hcbll := fun W (hW : Grew w W) => HJ.out W hW l[k].ep l[k].rp l[k].nb hfk
              simp only [show (⟨l[k].ep, l[k].rp, l[k].nb⟩ : IdD) = l[k].id from rfl] at hcall hcbll
              rw [← HXI.out] at u
              simp only [elRow] at u
              have u3 : wr.cellsAt ⟨B, off + i * 5, none⟩ 3 = some [.int .i64 e0, .int .i64 e1, .int .i64 e2] := World.cellsAt_sub u 0 3 (by omega)
              cases hp : pf (l.take k) l[k].id with
              | some r =>
                have ho := pf_old k hltk hp
                simp only [index_old hp] at hcall
                rw [shG_old m l k hltk hp] at hn
                obtain ⟨z, hz⟩ : ∃ z : Int, z = (pf m l[k].id).getD (-1) := ⟨_, rfl⟩
                rw [← hz] at hcbll
                have g1 : (r == (k : Int)) = false := by rw [beq_eq_false_iff_ne]; omega
                have HC' := Lib.hid hcall
                have HD' := Lib.hid hcbll
                have HN' := Lib.hid hn
                clear ho hn hgv hcall hcbll hfk hp hz HC HD
                generalize l[k] = y at *
                obtain ⟨f0, f1, f2, fh, fd⟩ := y
                simp only [elRow] at v
                simp only at HC' HD'
                have v3 : wr.cellsAt ⟨B, off + k * 5, none⟩ 3 = some [.int .i64 f0, .int .i64 f1, .int .i64 f2] := World.cellsAt_sub v 0 3 (by omega)
                go_wp2_with (go_at_call 47; (first
                  | ((with_reducible refine (HC'.out _ (HG.out.trans (HGV.out.trans (by repeat (first | with_reducible exact HG.out | with_reducible exact Grew.refl _ | with_reducible assumption | with_reducible apply Grew.plus | with_reducible apply Grew.drewN | with_reducible apply Grew.drew | with_reducible apply Grew.alloc | with_reducible refine Grew.setCell ?_ (by simp [go_sem]; try omega) _))))).mono ?_); rintro e w' ⟨rfl, gx, rfl⟩)
                  | ((with_reducible refine (HD'.out _ (HG.out.trans (HGV.out.trans (by repeat (first | with_reducible exact HG.out | with_reducible exact Grew.refl _ | with_reducible assumption | with_reducible apply Grew.plus | with_reducible apply Grew.drewN | with_reducible apply Grew.drew | with_reducible apply Grew.alloc | with_reducible refine Grew.setCell ?_ (by simp [go_sem]; try omega) _))))).mono ?_); rintro e w' ⟨rfl, gx, rfl⟩)))
                go_roundw
                case rel => exact ⟨k + 1, by omega, by omega, by go_num, HN'.out, HGV.out.trans (by repeat (first | with_reducible exact HG.out | with_reducible exact Grew.refl _ | with_reducible assumption | with_reducible apply Grew.plus | with_reducible apply Grew.drewN | with_reducible apply Grew.drew | with_reducible apply Grew.alloc | with_reducible refine Grew.setCell ?_ (by simp [go_sem]; try omega) _))⟩
                case measure => simp [intOf]; omega
              | none =>
                simp only [index_new hp] at hcall
                cases hpm : pf m l[k].id with
                | none =>
                  rw [shG_out m l k hltk hpm] at hn
                  simp only [hpm, Option.getD_none] at hcbll
                  have HC' := Lib.hid hcall
                  have HD' := Lib.hid hcbll
                  have HN' := Lib.hid hn
                  clear hn hgv hcall hcbll hfk hp hpm HC HD
                  generalize l[k] = y at *
                  obtain ⟨f0, f1, f2, fh, fd⟩ := y
                  simp only [elRow] at v
                  simp only at HC' HD'
                  have v3 : wr.cellsAt ⟨B, off + k * 5, none⟩ 3 = some [.int .i64 f0, .int .i64 f1, .int .i64 f2] := World.cellsAt_sub v 0 3 (by omega)
                  go_wp2_with (go_at_call 47; (first
                    | ((with_reducible refine (HC'.out _ (HG.out.trans (HGV.out.trans (by repeat (first | with_reducible exact HG.out | with_reducible exact Grew.refl _ | with_reducible assumption | with_reducible apply Grew.plus | with_reducible apply Grew.drewN | with_reducible apply Grew.drew | with_reducible apply Grew.alloc | with_reducible refine Grew.setCell ?_ (by simp [go_sem]; try omega) _))))).mono ?_); rintro e w' ⟨rfl, gx, rfl⟩)
                    | ((with_reducible refine (HD'.out _ (HG.out.trans (HGV.out.trans (by repeat (first | with_reducible exact HG.out | with_reducible exact Grew.refl _ | with_reducible assumption | with_reducible apply Grew.plus | with_reducible apply Grew.drewN | with_reducible apply Grew.drew | with_reducible apply Grew.alloc | with_reducible refine Grew.setCell ?_ (by simp [go_sem]; try omega) _))))).mono ?_); rintro e w' ⟨rfl, gx, rfl⟩)))
                  go_roundw
                  case rel => exact ⟨k + 1, by omega, by omega, by go_num, HN'.out, HGV.out.trans (by repeat (first | with_reducible exact HG.out | with_reducible exact Grew.refl _ | with_reducible assumption | with_reducible apply Grew.plus | with_reducible apply Grew.drewN | with_reducible apply Grew.drew | with_reducible apply Grew.alloc | with_reducible refine Grew.setCell ?_ (by simp [go_sem]; try omega) _))⟩
                  case measure => simp [intOf]; omega
                | some r =>
                  have hbr := pf_bound hpm
                  have hb3 := hbr.1
                  have g1 : decide ((0 : Int) ≤ r) = true := by simp; omega
                  rw [shG_new m l k hltk hp hpm] at hn
                  simp only [hpm, Option.getD_some] at hcbll
                  by_cases hrp : r < p
                  · rw [fpx_hit _ _ _ _ _ _ hrp] at hn
                    have g2 : decide (r < p) = true := by simp; omega
                    have HC' := Lib.hid hcall
                    have HD' := Lib.hid hcbll
                    have HN' := Lib.hid hn
                    have hX := Grew.heap hgv HX.out
                    have hY := Grew.heap hgv HY.out
                    clear hn hgv hcall hcbll hfk hp hpm hbr HC HD
                    generalize l[k] = y at *
                    obtain ⟨f0, f1, f2, fh, fd⟩ := y
                    simp only [elRow] at v
                    simp only at HC' HD'
                    have v3 : wr.cellsAt ⟨B, off + k * 5, none⟩ 3 = some [.int .i64 f0, .int .i64 f1, .int .i64 f2] := World.cellsAt_sub v 0 3 (by omega)
                    go_wp2_with (go_at_call 47; (first
                      | ((with_reducible refine (HC'.out _ (HG.out.trans (HGV.out.trans (by repeat (first | with_reducible exact HG.out | with_reducible exact Grew.refl _ | with_reducible assumption | with_reducible apply Grew.plus | with_reducible apply Grew.drewN | with_reducible apply Grew.drew | with_reducible apply Grew.alloc | with_reducible refine Grew.setCell ?_ (by simp [go_sem]; try omega) _))))).mono ?_); rintro e w' ⟨rfl, gx, rfl⟩)
                      | ((with_reducible refine (HD'.out _ (HG.out.trans (HGV.out.trans (by repeat (first | with_reducible exact HG.out | with_reducible exact Grew.refl _ | with_reducible assumption | with_reducible apply Grew.plus | with_reducible apply Grew.drewN | with_reducible apply Grew.drew | with_reducible apply Grew.alloc | with_reducible refine Grew.setCell ?_ (by simp [go_sem]; try omega) _))))).mono ?_); rintro e w' ⟨rfl, gx, rfl⟩)))
                    obtain ⟨n0, j0⟩ := World.own_cell hX 0 _ rfl
                    obtain ⟨n1, j1⟩ := World.own_cell hX 1 _ rfl
                    obtain ⟨n2, j2⟩ := World.own_cell hX 2 _ rfl
                    obtain ⟨m0, k0⟩ := World.own_cell hY 0 _ rfl
                    obtain ⟨m1, k1⟩ := World.own_cell hY 1 _ rfl
                    obtain ⟨m2, k2⟩ := World.own_cell hY 2 _ rfl
                    have HX' := Lib.hid hX
                    have HY' := Lib.hid hY
                    clear hX hY
                    have hneB : ¬ w.heap.size = B := by omega
                    have hneC : ¬ w.heap.size + 1 = B := by omega
                    go_region
                    go_wp2_with fail
                    refine chain33 (Q := fun W => bodyPost _ _ _ _ _ W.drew) (by omega) (Grew.heap (show Grew wr _ from by repeat (first | with_reducible exact HG.out | with_reducible exact Grew.refl _ | with_reducible assumption | with_reducible apply Grew.plus | with_reducible apply Grew.drewN | with_reducible apply Grew.drew | with_reducible apply Grew.alloc | with_reducible refine Grew.setCell ?_ (by simp [go_sem]; try omega) _)) HX'.out) (Grew.heap (show Grew wr _ from by repeat (first | with_reducible exact HG.out | with_reducible exact Grew.refl _ | with_reducible assumption | with_reducible apply Grew.plus | with_reducible apply Grew.drewN | with_reducible apply Grew.drew | with_reducible apply Grew.alloc | with_reducible refine Grew.setCell ?_ (by simp [go_sem]; try omega) _)) HY'.out) (fun w9 e4 e5 gw => ?_)
                    obtain ⟨y0, _⟩ := World.own_cell e4 0 _ rfl
                    obtain ⟨y1, _⟩ := World.own_cell e4 1 _ rfl
                    obtain ⟨y2, _⟩ := World.own_cell e4 2 _ rfl
                    obtain ⟨z0, _⟩ := World.own_cell e5 0 _ rfl
                    obtain ⟨z1, _⟩ := World.own_cell e5 1 _ rfl
                    obtain ⟨z2, _⟩ := World.own_cell e5 2 _ rfl
                    exact bodyPost_ret (v := fpVal (some (⟨e0, e1, e2⟩, ⟨f0, f1, f2⟩))) (by simp [fpVal, results, Tryz.results24, go_sem, y0, y1, y2, z0, z1, z2]) rfl ⟨by rw [HN'.out]; rfl, (gw w (Nat.le_refl _) (Nat.le_succ _) (HG.out.trans (HGV.out.trans (by repeat (first | with_reducible exact HG.out | with_reducible exact Grew.refl _ | with_reducible assumption | with_reducible apply Grew.plus | with_reducible apply Grew.drewN | with_reducible apply Grew.drew | with_reducible apply Grew.alloc | with_reducible refine Grew.setCell ?_ (by simp [go_sem]; try omega) _))))).drew⟩
                  · rw [fpx_skip _ _ _ _ _ _ hrp] at hn
                    have g2 : decide (r < p) = false := by simp; omega
                    have HC' := Lib.hid hcall
                    have HD' := Lib.hid hcbll
                    have HN' := Lib.hid hn
                    clear hn hgv hcall hcbll hfk hp hpm hbr HC HD
                    generalize l[k] = y at *
                    obtain ⟨f0, f1, f2, fh, fd⟩ := y
                    simp only [elRow] at v
                    simp only at HC' HD'
                    have v3 : wr.cellsAt ⟨B, off + k * 5, none⟩ 3 = some [.int .i64 f0, .int .i64 f1, .int .i64 f2] := World.cellsAt_sub v 0 3 (by omega)
                    go_wp2_with (go_at_call 47; (first
                      | ((with_reducible refine (HC'.out _ (HG.out.trans (HGV.out.trans (by repeat (first | with_reducible exact HG.out | with_reducible exact Grew.refl _ | with_reducible assumption | with_reducible apply Grew.plus | with_reducible apply Grew.drewN | with_reducible apply Grew.drew | with_reducible apply Grew.alloc | with_reducible refine Grew.setCell ?_ (by simp [go_sem]; try omega) _))))).mono ?_); rintro e w' ⟨rfl, gx, rfl⟩)
                      | ((with_reducible refine (HD'.out _ (HG.out.trans (HGV.out.trans (by repeat (first | with_reducible exact HG.out | with_reducible exact Grew.refl _ | with_reducible assumption | with_reducible apply Grew.plus | with_reducible apply Grew.drewN | with_reducible apply Grew.drew | with_reducible apply Grew.alloc | with_reducible refine Grew.setCell ?_ (by simp [go_sem]; try omega) _))))).mono ?_); rintro e w' ⟨rfl, gx, rfl⟩)))
                    go_roundw
                    case rel => exact ⟨k + 1, by omega, by omega, by go_num, HN'.out, HGV.out.trans (by repeat (first | with_reducible exact HG.out | with_reducible exact Grew.refl _ | with_reducible assumption | with_reducible apply Grew.plus | with_reducible apply Grew.drewN | with_reducible apply Grew.drew | with_reducible apply Grew.alloc | with_reducible refine Grew.setCell ?_ (by simp [go_sem]; try omega) _))⟩
                    case measure => simp [intOf]; omega
            · obtain rfl : k = l.length := by omega
              rw [List.drop_length] at hn
              simp only [shG, fpx_nil] at hn
              have HN' := Lib.hid hn
              clear hn hgv HC HD
              go_wp2_with fail
              go_roundw
              case rel => exact ⟨i + 1, by omega, by go_num, HN'.out, Grew.heap (HGV.out.trans (by repeat (first | with_reducible exact HG.out | with_reducible exact Grew.refl _ | with_reducible assumption | with_reducible apply Grew.plus | with_reducible apply Grew.drewN | with_reducible apply Grew.drew | with_reducible apply Grew.alloc | with_reducible refine Grew.setCell ?_ (by simp [go_sem]; try omega) _))) HX.out, Grew.heap (HGV.out.trans (by repeat (first | with_reducible exact HG.out | with_reducible exact Grew.refl _ | with_reducible assumption | with_reducible apply Grew.plus | with_reducible apply Grew.drewN | with_reducible apply Grew.drew | with_reducible apply Grew.alloc | with_reducible refine Grew.setCell ?_ (by simp [go_sem]; try omega) _))) HY.out, HG.out.trans (HGV.out.trans (by repeat (first | with_reducible exact HG.out | with_reducible exact Grew.refl _ | with_reducible assumption | with_reducible apply Grew.plus | with_reducible apply Grew.drewN | with_reducible apply Grew.drew | with_reducible apply Grew.alloc | with_reducible refine Grew.setCell ?_ (by simp [go_sem]; try omega) _)))⟩
              case measure => simp [intOf]; omega
    · obtain rfl : i = l.length := by omega
      rw [List.drop_length] at hn
      simp only [shG, fp] at hn
      have HN := Lib.hid hn
      obtain ⟨n0, f0⟩ := World.own_cell hx 0 _ rfl
      obtain ⟨n1, f1⟩ := World.own_cell hx 1 _ rfl
      obtain ⟨n2, f2⟩ := World.own_cell hx 2 _ rfl
      obtain ⟨m0, k0⟩ := World.own_cell hy 0 _ rfl
      obtain ⟨m1, k1⟩ := World.own_cell hy 1 _ rfl
      obtain ⟨m2, k2⟩ := World.own_cell hy 2 _ rfl
      have HX := Lib.hid hx
      have HY := Lib.hid hy
      clear hg hn hx hy
      go_wp2_with fail
      refine chain33 (Q := bodyPost _ _ _ _ _) (by omega) (Grew.heap (show Grew wr _ from by repeat (first | with_reducible exact HG.out | with_reducible exact Grew.refl _ | with_reducible assumption | with_reducible apply Grew.plus | with_reducible apply Grew.drewN | with_reducible apply Grew.drew | with_reducible apply Grew.alloc | with_reducible refine Grew.setCell ?_ (by simp [go_sem]; try omega) _)) HX.out) (Grew.heap (show Grew wr _ from by repeat (first | with_reducible exact HG.out | with_reducible exact Grew.refl _ | with_reducible assumption | with_reducible apply Grew.plus | with_reducible apply Grew.drewN | with_reducible apply Grew.drew | with_reducible apply Grew.alloc | with_reducible refine Grew.setCell ?_ (by simp [go_sem]; try omega) _)) HY.out) (fun w9 e4 e5 gw => ?_)
      obtain ⟨y0, _⟩ := World.own_cell e4 0 _ rfl
      obtain ⟨y1, _⟩ := World.own_cell e4 1 _ rfl
      obtain ⟨y2, _⟩ := World.own_cell e4 2 _ rfl
      obtain ⟨z0, _⟩ := World.own_cell e5 0 _ rfl
      obtain ⟨z1, _⟩ := World.own_cell e5 1 _ rfl
      obtain ⟨z2, _⟩ := World.own_cell e5 2 _ rfl
      exact bodyPost_ret (v := fpVal none) (by simp [fpVal, results, Tryz.results24, go_sem, y0, y1, y2, z0, z1, z2]) rfl ⟨by rw [HN.out], gw w (Nat.le_refl _) (Nat.le_succ _) (HG.out.trans (by repeat (first | with_reducible exact HG.out | with_reducible exact Grew.refl _ | with_reducible assumption | with_reducible apply Grew.plus | with_reducible apply Grew.drewN | with_reducible apply Grew.drew | with_reducible apply Grew.alloc | with_reducible refine Grew.setCell ?_ (by simp [go_sem]; try omega) _)))⟩
end Go.Proofs.YtofijhejpgjopaaGreatDoor
