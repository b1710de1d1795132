/- Walks: the document's Twice and Shared. -/
import Derived.Test.YtofijhejpgjopaaGreatDoorOrdP
namespace Go.Proofs.YtofijhejpgjopaaGreatDoor
open Go.RowKit Go.Maps
set_option linter.unusedSimpArgs false
set_option linter.unusedVariables false

theorem zero_id_fits : (IdD.mk 0 0 0).Fits := ⟨⟨by decide, by decide⟩, ⟨by decide, by decide⟩, ⟨by decide, by decide⟩⟩
/-- The document's Index at an element of its list. -/
theorem index_old {l : List ElD} {k : Nat} {h : k < l.length} {p : Int} (hp : pf (l.take k) l[k].id = some p) : (pf l l[k].id).getD (-1) = p := by rw [(pf_old k h hp).1]; rfl
theorem index_new {l : List ElD} {k : Nat} {h : k < l.length} (hp : pf (l.take k) l[k].id = none) : (pf l l[k].id).getD (-1) = (k : Int) := by rw [pf_new k h hp]; rfl

set_option maxRecDepth 100000 in
set_option maxHeartbeats 2000000 in
theorem rtwice_any (l : List ElD) (a : Option Addr) (cap : Nat) (w : World) (ha : CellsIn w a (l.flatMap elRow)) (hf : ∀ e ∈ l, e.Fits) (hl : l.length ≤ 1000000) :
    Calls Tryz.prog 27 #[.slice a l.length cap] w fun e w' => e = .returned (.bool (!decide (nd l = l.length))) ∧ Grew w w' := by
  have HA := Lib.hid ha
  have HF := Lib.hid hf
  have HI := Lib.hid (fun W (hW : Grew w W) e0 e1 e2 hid => rindex_any l a cap W (ha.grew hW) hf hl e0 e1 e2 hid)
  clear ha hf
  go_enter Tryz.func27, Tryz.ntmps27
  go_wp2_with fail
  go_loopw [3] (fun s3 wr => ∃ (k : Nat), k ≤ l.length ∧ s3 = .int .i64 k ∧ nd l = k + ndG (l.take k) (l.drop k) ∧ Grew w wr) (fun s3 _ => l.length - (intOf s3).toNat)
  case atStart => exact ⟨0, by omega, rfl, by simp [nd], by repeat (first | with_reducible exact HG.out | with_reducible exact Grew.refl _ | with_reducible assumption | with_reducible apply Grew.plus | with_reducible apply Grew.drewN | with_reducible apply Grew.drew | with_reducible apply Grew.alloc | with_reducible refine Grew.setCell ?_ (by simp [go_sem]; try omega) _)⟩
  case round =>
    obtain ⟨k, hk, rfl, hn, hg⟩ := hrel
    have HG := Lib.hid hg
    by_cases hlt : k < l.length
    · obtain ⟨b, off, rfl, hbl, hrow⟩ := CellsIn.rowAt elRow 5 elRow_len (by omega) HA.out (by omega)
      have q := cellsAt_later hg (hrow k hlt) hbl
      have hnd := ndG_drop l k hlt
      have hle := ndG_le (l.drop (k + 1)) (l.take (k + 1))
      rw [List.length_drop] at hle
      have hfe := (HF.out l[k] (List.getElem_mem hlt)).id
      have hcall := fun W (hW : Grew w W) => HI.out W hW l[k].ep l[k].rp l[k].nb hfe
      cases hp : pf (l.take k) l[k].id with
      | some p =>
        have ho := pf_old k hlt hp
        simp only [show (⟨l[k].ep, l[k].rp, l[k].nb⟩ : IdD) = l[k].id from rfl, index_old hp] at hcall
        have HC := Lib.hid hcall
        simp [hp] at hnd
        have hres : (!decide (nd l = l.length)) = true := by simp; omega
        have HR := Lib.hid hres
        have b1 := ho.2.1
        have b2 := ho.2.2
        clear ho hnd hle hn hg hrow hcall hfe hp hres
        generalize l[k] = x at *
        obtain ⟨e0, e1, e2, ch, hd⟩ := x
        simp only [elRow] at q
        have q3 : wr.cellsAt ⟨b, off + k * 5, none⟩ 3 = some [.int .i64 e0, .int .i64 e1, .int .i64 e2] := World.cellsAt_sub q 0 3 (by omega)
        go_wp2_with (go_at_call 47; refine (HC.out _ (HG.out.trans (by repeat (first | with_reducible exact HG.out | with_reducible exact Grew.refl _ | with_reducible assumption | with_reducible apply Grew.plus | with_reducible apply Grew.drewN | with_reducible apply Grew.drew | with_reducible apply Grew.alloc | with_reducible refine Grew.setCell ?_ (by simp [go_sem]; try omega) _)))).mono ?_; rintro e w' ⟨rfl, gx, rfl⟩)
        go_ret
        exact ⟨by rw [HR.out]; rfl, HG.out.trans (by repeat (first | with_reducible exact HG.out | with_reducible exact Grew.refl _ | with_reducible assumption | with_reducible apply Grew.plus | with_reducible apply Grew.drewN | with_reducible apply Grew.drew | with_reducible apply Grew.alloc | with_reducible refine Grew.setCell ?_ (by simp [go_sem]; try omega) _))⟩
      | none =>
        simp only [show (⟨l[k].ep, l[k].rp, l[k].nb⟩ : IdD) = l[k].id from rfl, index_new hp] at hcall
        have HC := Lib.hid hcall
        simp [hp] at hnd
        have hnn : nd l = (k + 1) + ndG (l.take (k + 1)) (l.drop (k + 1)) := by omega
        have HN := Lib.hid hnn
        clear hnd hle hn hg hrow hcall hfe hp hnn
        generalize l[k] = x at *
        obtain ⟨e0, e1, e2, ch, hd⟩ := x
        simp only [elRow] at q
        have q3 : wr.cellsAt ⟨b, off + k * 5, none⟩ 3 = some [.int .i64 e0, .int .i64 e1, .int .i64 e2] := World.cellsAt_sub q 0 3 (by omega)
        go_wp2_with (go_at_call 47; refine (HC.out _ (HG.out.trans (by repeat (first | with_reducible exact HG.out | with_reducible exact Grew.refl _ | with_reducible assumption | with_reducible apply Grew.plus | with_reducible apply Grew.drewN | with_reducible apply Grew.drew | with_reducible apply Grew.alloc | with_reducible refine Grew.setCell ?_ (by simp [go_sem]; try omega) _)))).mono ?_; rintro e w' ⟨rfl, gx, rfl⟩)
        go_roundw
        case rel => exact ⟨k + 1, by omega, by go_num, HN.out, HG.out.trans (by repeat (first | with_reducible exact HG.out | with_reducible exact Grew.refl _ | with_reducible assumption | with_reducible apply Grew.plus | with_reducible apply Grew.drewN | with_reducible apply Grew.drew | with_reducible apply Grew.alloc | with_reducible refine Grew.setCell ?_ (by simp [go_sem]; try omega) _))⟩
        case measure => simp [intOf]; omega
    · obtain rfl : k = l.length := by omega
      have hres : (!decide (nd l = l.length)) = false := by
        rw [List.drop_length] at hn
        simp [ndG] at hn
        simp [hn]
      have HR := Lib.hid hres
      clear hn hg hres
      go_wp2_with fail
      go_ret
      exact ⟨by rw [HR.out]; rfl, HG.out.trans (by repeat (first | with_reducible exact HG.out | with_reducible exact Grew.refl _ | with_reducible assumption | with_reducible apply Grew.plus | with_reducible apply Grew.drewN | with_reducible apply Grew.drew | with_reducible apply Grew.alloc | with_reducible refine Grew.setCell ?_ (by simp [go_sem]; try omega) _))⟩

set_option maxRecDepth 100000 in
set_option maxHeartbeats 2000000 in
theorem rshared_any (l m : List ElD) (a b : Option Addr) (ca cb : Nat) (w : World) (ha : CellsIn w a (l.flatMap elRow)) (hb : CellsIn w b (m.flatMap elRow)) (hf : ∀ e ∈ l, e.Fits) (hfm : ∀ e ∈ m, e.Fits) (hl : l.length ≤ 1000000) (hm : m.length ≤ 1000000) :
    Calls Tryz.prog 26 #[.slice a l.length ca, .slice b m.length cb] w fun e w' => e = .returned (.int .i64 (sh l m).length) ∧ Grew w w' := by
  have HA := Lib.hid ha
  have HF := Lib.hid hf
  have HI := Lib.hid (fun W (hW : Grew w W) e0 e1 e2 hid => rindex_any l a ca W (ha.grew hW) hf hl e0 e1 e2 hid)
  have HJ := Lib.hid (fun W (hW : Grew w W) e0 e1 e2 hid => rindex_any m b cb W (hb.grew hW) hfm hm e0 e1 e2 hid)
  clear ha hf hb hfm
  go_enter Tryz.func26, Tryz.ntmps26
  go_wp2_with fail
  go_loopw [5, 6] (fun s5 s6 wr => ∃ (k n : Nat), k ≤ l.length ∧ s6 = .int .i64 k ∧ s5 = .int .i64 n ∧ n + (shG m (l.take k) (l.drop k)).length = (sh l m).length ∧ Grew w wr) (fun _ s6 _ => l.length - (intOf s6).toNat)
  case atStart => exact ⟨0, 0, by omega, rfl, rfl, by simp [sh], by repeat (first | with_reducible exact HG.out | with_reducible exact Grew.refl _ | with_reducible assumption | with_reducible apply Grew.plus | with_reducible apply Grew.drewN | with_reducible apply Grew.drew | with_reducible apply Grew.alloc | with_reducible refine Grew.setCell ?_ (by simp [go_sem]; try omega) _)⟩
  case round =>
    obtain ⟨k, n, hk, rfl, rfl, hn, hg⟩ := hrel
    have HG := Lib.hid hg
    have hnl : n ≤ 1000000 := by have := shG_len m l []; unfold sh at hn; omega
    by_cases hlt : k < l.length
    · obtain ⟨B, off, rfl, hbl, hrow⟩ := CellsIn.rowAt elRow 5 elRow_len (by omega) HA.out (by omega)
      have q := cellsAt_later hg (hrow k hlt) hbl
      have hfe := (HF.out l[k] (List.getElem_mem hlt)).id
      have hcall := fun W (hW : Grew w W) => HI.out W hW l[k].ep l[k].rp l[k].nb hfe
      have hcbll := fun W (hW : Grew w W) => HJ.out W hW l[k].ep l[k].rp l[k].nb hfe
      simp only [show (⟨l[k].ep, l[k].rp, l[k].nb⟩ : IdD) = l[k].id from rfl] at hcall hcbll
      cases hp : pf (l.take k) l[k].id with
      | some p =>
        have ho := pf_old k hlt hp
        simp only [index_old hp] at hcall
        rw [shG_old m l k hlt hp] at hn
        have HC := Lib.hid hcall
        have HN := Lib.hid hn
        have g1 : (p == (k : Int)) = false := by rw [beq_eq_false_iff_ne]; omega
        clear ho hn hg hrow hcall hcbll hfe hp
        generalize l[k] = x at *
        obtain ⟨e0, e1, e2, ch, hd⟩ := x
        simp only [elRow] at q
        have q3 : wr.cellsAt ⟨B, off + k * 5, none⟩ 3 = some [.int .i64 e0, .int .i64 e1, .int .i64 e2] := World.cellsAt_sub q 0 3 (by omega)
        go_wp2_with (go_at_call 47; refine (HC.out _ (HG.out.trans (by repeat (first | with_reducible exact HG.out | with_reducible exact Grew.refl _ | with_reducible assumption | with_reducible apply Grew.plus | with_reducible apply Grew.drewN | with_reducible apply Grew.drew | with_reducible apply Grew.alloc | with_reducible refine Grew.setCell ?_ (by simp [go_sem]; try omega) _)))).mono ?_; rintro e w' ⟨rfl, gx, rfl⟩)
        go_roundw
        case rel => exact ⟨k + 1, n, by omega, by go_num, rfl, HN.out, HG.out.trans (by repeat (first | with_reducible exact HG.out | with_reducible exact Grew.refl _ | with_reducible assumption | with_reducible apply Grew.plus | with_reducible apply Grew.drewN | with_reducible apply Grew.drew | with_reducible apply Grew.alloc | with_reducible refine Grew.setCell ?_ (by simp [go_sem]; try omega) _))⟩
        case measure => simp [intOf]; omega
      | none =>
        simp only [index_new hp] at hcall
        have HC := Lib.hid hcall
        cases hpm : pf m l[k].id with
        | some p =>
          have hb := pf_bound hpm
          have g1 : decide ((0 : Int) ≤ p) = true := by simp; omega
          rw [shG_new m l k hlt hp hpm, List.length_cons] at hn
          simp only [hpm, Option.getD_some] at hcbll
          have HD := Lib.hid hcbll
          have HN := Lib.hid hn
          clear hn hg hrow hcall hcbll hfe hp hpm
          generalize l[k] = x at *
          obtain ⟨e0, e1, e2, ch, hd⟩ := x
          simp only [elRow] at q
          simp only at HC HD
          have q3 : wr.cellsAt ⟨B, off + k * 5, none⟩ 3 = some [.int .i64 e0, .int .i64 e1, .int .i64 e2] := World.cellsAt_sub q 0 3 (by omega)
          go_wp2_with (go_at_call 47; (first
            | ((with_reducible refine (HC.out _ (HG.out.trans (by repeat (first | with_reducible exact HG.out | with_reducible exact Grew.refl _ | with_reducible assumption | with_reducible apply Grew.plus | with_reducible apply Grew.drewN | with_reducible apply Grew.drew | with_reducible apply Grew.alloc | with_reducible refine Grew.setCell ?_ (by simp [go_sem]; try omega) _)))).mono ?_); rintro e w' ⟨rfl, gx, rfl⟩)
            | ((with_reducible refine (HD.out _ (HG.out.trans (by repeat (first | with_reducible exact HG.out | with_reducible exact Grew.refl _ | with_reducible assumption | with_reducible apply Grew.plus | with_reducible apply Grew.drewN | with_reducible apply Grew.drew | with_reducible apply Grew.alloc | with_reducible refine Grew.setCell ?_ (by simp [go_sem]; try omega) _)))).mono ?_); rintro e w' ⟨rfl, gx, rfl⟩)))
          go_roundw
          case rel => exact ⟨k + 1, n + 1, by omega, by go_num, by go_num, by have := HN.out; omega, HG.out.trans (by repeat (first | with_reducible exact HG.out | with_reducible exact Grew.refl _ | with_reducible assumption | with_reducible apply Grew.plus | with_reducible apply Grew.drewN | with_reducible apply Grew.drew | with_reducible apply Grew.alloc | with_reducible refine Grew.setCell ?_ (by simp [go_sem]; try omega) _))⟩
          case measure => simp [intOf]; omega
        | none =>
          rw [shG_out m l k hlt hpm] at hn
          simp only [hpm, Option.getD_none] at hcbll
          have HD := Lib.hid hcbll
          have HN := Lib.hid hn
          clear hn hg hrow hcall hcbll hfe hp hpm
          generalize l[k] = x at *
          obtain ⟨e0, e1, e2, ch, hd⟩ := x
          simp only [elRow] at q
          simp only at HC HD
          have q3 : wr.cellsAt ⟨B, off + k * 5, none⟩ 3 = some [.int .i64 e0, .int .i64 e1, .int .i64 e2] := World.cellsAt_sub q 0 3 (by omega)
          go_wp2_with (go_at_call 47; (first
            | ((with_reducible refine (HC.out _ (HG.out.trans (by repeat (first | with_reducible exact HG.out | with_reducible exact Grew.refl _ | with_reducible assumption | with_reducible apply Grew.plus | with_reducible apply Grew.drewN | with_reducible apply Grew.drew | with_reducible apply Grew.alloc | with_reducible refine Grew.setCell ?_ (by simp [go_sem]; try omega) _)))).mono ?_); rintro e w' ⟨rfl, gx, rfl⟩)
            | ((with_reducible refine (HD.out _ (HG.out.trans (by repeat (first | with_reducible exact HG.out | with_reducible exact Grew.refl _ | with_reducible assumption | with_reducible apply Grew.plus | with_reducible apply Grew.drewN | with_reducible apply Grew.drew | with_reducible apply Grew.alloc | with_reducible refine Grew.setCell ?_ (by simp [go_sem]; try omega) _)))).mono ?_); rintro e w' ⟨rfl, gx, rfl⟩)))
          go_roundw
          case rel => exact ⟨k + 1, n, by omega, by go_num, rfl, HN.out, HG.out.trans (by repeat (first | with_reducible exact HG.out | with_reducible exact Grew.refl _ | with_reducible assumption | with_reducible apply Grew.plus | with_reducible apply Grew.drewN | with_reducible apply Grew.drew | with_reducible apply Grew.alloc | with_reducible refine Grew.setCell ?_ (by simp [go_sem]; try omega) _))⟩
          case measure => simp [intOf]; omega
    · obtain rfl : k = l.length := by omega
      rw [List.drop_length] at hn
      simp only [shG, List.length_nil, Nat.add_zero] at hn
      subst hn
      clear hg
      go_wp2_with fail
      go_ret
      exact ⟨rfl, HG.out.trans (by repeat (first | with_reducible exact HG.out | with_reducible exact Grew.refl _ | with_reducible assumption | with_reducible apply Grew.plus | with_reducible apply Grew.drewN | with_reducible apply Grew.drew | with_reducible apply Grew.alloc | with_reducible refine Grew.setCell ?_ (by simp [go_sem]; try omega) _))⟩
end Go.Proofs.YtofijhejpgjopaaGreatDoor
