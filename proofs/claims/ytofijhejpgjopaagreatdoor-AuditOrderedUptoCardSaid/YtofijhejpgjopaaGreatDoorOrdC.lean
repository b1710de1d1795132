/- Walks: First's closure, the library's IndexFunc over it. -/
import Derived.Test.YtofijhejpgjopaaGreatDoorOrdS
import Derived.Test.YtofijhejpgjopaaGreatDoorOrdF
namespace Go
def idRow (x : IdD) : List Value := [.int .i64 x.ep, .int .i64 x.rp, .int .i64 x.nb]
theorem idRow_len (x : IdD) : (idRow x).length = 3 := rfl
end Go
namespace Go.Proofs.YtofijhejpgjopaaGreatDoor
open Go.RowKit Go.Maps
set_option linter.unusedSimpArgs false
set_option linter.unusedVariables false

theorem idEl : Elem Tryz.prog 81 43 3 24 := Elem.of Tryz.underlying81 (by kernel_rfl) (by decide)

set_option maxRecDepth 100000 in
set_option maxHeartbeats 2000000 in
theorem less_any (x0 x1 x2 y0 y1 y2 : Int) (hx : (IdD.mk x0 x1 x2).Fits) (hy : (IdD.mk y0 y1 y2).Fits) (T X bm n : Nat) (f : IdD → Option Int) (w : World) (ht : w.cell? ⟨T, 0, none⟩ = some (.map (some bm))) (hxc : w.cellsAt ⟨X, 0, none⟩ 3 = some [.int .i64 x0, .int .i64 x1, .int .i64 x2]) (hTs : T < w.heap.size) (hXs : X < w.heap.size) (hm : IdMap w bm f n) :
    Calls Tryz.prog 46 #[.agg #[.int .i64 y0, .int .i64 y1, .int .i64 y2], .pointer (some ⟨T, 0, none⟩), .pointer (some ⟨X, 0, none⟩)] w fun e w' => e = .returned (.bool (decide ((f ⟨y0, y1, y2⟩).getD 0 < (f ⟨x0, x1, x2⟩).getD 0))) ∧ Grew w w' := by
  have k1 : ∀ x, (Instr.lookup 78 (.map (some bm)) (.agg #[.int .i64 y0, .int .i64 y1, .int .i64 y2]) false).run Tryz.prog ((w.alloc (.cells #[.int .i64 y0, .int .i64 y1, .int .i64 y2] 43)).plus x) = .ok (.int .i64 ((f ⟨y0, y1, y2⟩).getD 0)) ((w.alloc (.cells #[.int .i64 y0, .int .i64 y1, .int .i64 y2] 43)).plus x) := fun x => (hm.grew (by repeat (first | with_reducible exact HG.out | with_reducible exact Grew.refl _ | with_reducible assumption | with_reducible apply Grew.plus | with_reducible apply Grew.drewN | with_reducible apply Grew.drew | with_reducible apply Grew.alloc | with_reducible refine Grew.setCell ?_ (by simp [go_sem]; try omega) _))).look ⟨y0, y1, y2⟩ hy
  have k2 : ∀ x, (Instr.lookup 78 (.map (some bm)) (.agg #[.int .i64 x0, .int .i64 x1, .int .i64 x2]) false).run Tryz.prog ((w.alloc (.cells #[.int .i64 y0, .int .i64 y1, .int .i64 y2] 43)).plus x) = .ok (.int .i64 ((f ⟨x0, x1, x2⟩).getD 0)) ((w.alloc (.cells #[.int .i64 y0, .int .i64 y1, .int .i64 y2] 43)).plus x) := fun x => (hm.grew (by repeat (first | with_reducible exact HG.out | with_reducible exact Grew.refl _ | with_reducible assumption | with_reducible apply Grew.plus | with_reducible apply Grew.drewN | with_reducible apply Grew.drew | with_reducible apply Grew.alloc | with_reducible refine Grew.setCell ?_ (by simp [go_sem]; try omega) _))).look ⟨x0, x1, x2⟩ hx
  generalize (f ⟨y0, y1, y2⟩).getD 0 = p at *
  generalize (f ⟨x0, x1, x2⟩).getD 0 = q at *
  clear hm hx hy
  go_enter Tryz.func46, Tryz.ntmps46
  go_wp2_with fail
  refine wp_region_plus (by kernel_rfl) (by kernel_rfl) ?_
  repeat (go_big_quiet_step ((first | fail)))
  refine wpQuiet_nil ?_
  intro _ hw'
  obtain ⟨nx, rfl⟩ := hw'
  go_wp2_with fail
  go_ret
  exact ⟨rfl, by repeat (first | with_reducible exact HG.out | with_reducible exact Grew.refl _ | with_reducible assumption | with_reducible apply Grew.plus | with_reducible apply Grew.drewN | with_reducible apply Grew.drew | with_reducible apply Grew.alloc | with_reducible refine Grew.setCell ?_ (by simp [go_sem]; try omega) _)⟩

set_option maxRecDepth 100000 in
set_option maxHeartbeats 2000000 in
theorem indexF_any (xs : List IdD) (a : Option Addr) (cap : Nat) (x0 x1 x2 : Int) (hx : (IdD.mk x0 x1 x2).Fits) (T X bm n : Nat) (f : IdD → Option Int) (w : World) (ha : CellsIn w a (xs.flatMap idRow)) (hf : ∀ y ∈ xs, y.Fits) (hl : xs.length ≤ 1000000)
    (ht : w.heap[T]? = some (.cells #[.map (some bm)] 78 (0, 0))) (hxc : w.heap[X]? = some (.cells #[.int .i64 x0, .int .i64 x1, .int .i64 x2] 43 (0, 0))) (hm : IdMap w bm f n) :
    Calls Tryz.prog 45 #[.slice a xs.length cap, .func (.func 46) #[] #[.pointer (some ⟨T, 0, none⟩), .pointer (some ⟨X, 0, none⟩)]] w
      fun e w' => e = .returned (.int .i64 (((xs.findIdx? (fun y => decide ((f y).getD 0 < (f ⟨x0, x1, x2⟩).getD 0))).map Int.ofNat).getD (-1))) ∧ Grew w w' := by
  have HA := Lib.hid ha
  have HF := Lib.hid hf
  have HC := Lib.hid (fun y0 y1 y2 (hy : (IdD.mk y0 y1 y2).Fits) W (hW : Grew w W) => less_any x0 x1 x2 y0 y1 y2 hx hy T X bm n f W (World.own_cell (Grew.heap hW ht) 0 _ rfl).1 (World.cellsAt_block (Grew.heap hW hxc) 3 rfl) (Nat.lt_of_lt_of_le (Array.getElem?_eq_some_iff.1 ht).1 hW.size) (Nat.lt_of_lt_of_le (Array.getElem?_eq_some_iff.1 hxc).1 hW.size) (hm.grew hW))
  clear ha hf hx ht hxc hm
  generalize hpp : (fun y : IdD => decide ((f y).getD 0 < (f ⟨x0, x1, x2⟩).getD 0)) = pp at *
  have HPP := Lib.hid (fun y => congrFun hpp y)
  clear hpp
  go_enter Tryz.func45, Tryz.ntmps45
  go_wp2_with fail
  go_loopw [8] (fun s8 wr => ∃ (k : Nat), k ≤ xs.length ∧ s8 = .int .i64 k ∧ (xs.take k).findIdx? pp = none ∧ Grew w wr) (fun s8 _ => xs.length - (intOf s8).toNat)
  case atStart => exact ⟨0, by omega, rfl, rfl, by repeat (first | with_reducible exact HG.out | with_reducible exact Grew.refl _ | with_reducible assumption | with_reducible apply Grew.plus | with_reducible apply Grew.drewN | with_reducible apply Grew.drew | with_reducible apply Grew.alloc | with_reducible refine Grew.setCell ?_ (by simp [go_sem]; try omega) _)⟩
  case round =>
    obtain ⟨k, hk, rfl, hp, hg⟩ := hrel
    have HG := Lib.hid hg
    by_cases hlt : k < xs.length
    · obtain ⟨b, off, rfl, hbl, hrow⟩ := CellsIn.rowAt idRow 3 idRow_len (by omega) HA.out (by omega)
      have q := cellsAt_later hg (hrow k hlt) hbl
      have hfe := HF.out xs[k] (List.getElem_mem hlt)
      have hno : pp xs[k] = false → (xs.take (k + 1)).findIdx? pp = none := fun h => by
        rw [take_succ_get xs k hlt, List.findIdx?_append, hp]
        simp [List.findIdx?_cons, h]
      have hyes : pp xs[k] = true → xs.findIdx? pp = some k := fun h => by
        conv => lhs; rw [← List.take_append_drop k xs]
        rw [List.findIdx?_append, hp, List.drop_eq_getElem_cons hlt, List.findIdx?_cons, h]
        simp [List.length_take, Nat.min_eq_left hk]
      have hno := Lib.hid hno
      have hyes := Lib.hid hyes
      clear hrow hg hp
      have HCX := HC.out xs[k].ep xs[k].rp xs[k].nb hfe
      have hdec := HPP.out xs[k]
      rw [show (⟨xs[k].ep, xs[k].rp, xs[k].nb⟩ : IdD) = xs[k] from rfl, hdec] at HCX
      clear hdec hfe
      generalize xs[k] = y at *
      obtain ⟨y0, y1, y2⟩ := y
      simp only [idRow] at q
      simp only at HCX
      generalize hd : pp ⟨y0, y1, y2⟩ = d at *
      have HCX := Lib.hid HCX
      cases d
      case true =>
        go_wp2_with (go_at_call 46; refine (HCX.out _ (HG.out.trans (by repeat (first | with_reducible exact HG.out | with_reducible exact Grew.refl _ | with_reducible assumption | with_reducible apply Grew.plus | with_reducible apply Grew.drewN | with_reducible apply Grew.drew | with_reducible apply Grew.alloc | with_reducible refine Grew.setCell ?_ (by simp [go_sem]; try omega) _)))).mono ?_; rintro e w' ⟨rfl, gx, rfl⟩)
        go_ret
        exact ⟨by rw [hyes.out (by trivial)]; rfl, HG.out.trans (by repeat (first | with_reducible exact HG.out | with_reducible exact Grew.refl _ | with_reducible assumption | with_reducible apply Grew.plus | with_reducible apply Grew.drewN | with_reducible apply Grew.drew | with_reducible apply Grew.alloc | with_reducible refine Grew.setCell ?_ (by simp [go_sem]; try omega) _))⟩
      case false =>
        go_wp2_with (go_at_call 46; refine (HCX.out _ (HG.out.trans (by repeat (first | with_reducible exact HG.out | with_reducible exact Grew.refl _ | with_reducible assumption | with_reducible apply Grew.plus | with_reducible apply Grew.drewN | with_reducible apply Grew.drew | with_reducible apply Grew.alloc | with_reducible refine Grew.setCell ?_ (by simp [go_sem]; try omega) _)))).mono ?_; rintro e w' ⟨rfl, gx, rfl⟩)
        go_roundw
        case rel => exact ⟨k + 1, by omega, by go_num, hno.out (by trivial), HG.out.trans (by repeat (first | with_reducible exact HG.out | with_reducible exact Grew.refl _ | with_reducible assumption | with_reducible apply Grew.plus | with_reducible apply Grew.drewN | with_reducible apply Grew.drew | with_reducible apply Grew.alloc | with_reducible refine Grew.setCell ?_ (by simp [go_sem]; try omega) _))⟩
        case measure => simp [intOf]; omega
    · obtain rfl : k = xs.length := by omega
      rw [List.take_length] at hp
      have HP := Lib.hid hp
      clear hp hg
      go_wp2_with fail
      go_ret
      exact ⟨by rw [HP.out]; rfl, HG.out.trans (by repeat (first | with_reducible exact HG.out | with_reducible exact Grew.refl _ | with_reducible assumption | with_reducible apply Grew.plus | with_reducible apply Grew.drewN | with_reducible apply Grew.drew | with_reducible apply Grew.alloc | with_reducible refine Grew.setCell ?_ (by simp [go_sem]; try omega) _))⟩
end Go.Proofs.YtofijhejpgjopaaGreatDoor
