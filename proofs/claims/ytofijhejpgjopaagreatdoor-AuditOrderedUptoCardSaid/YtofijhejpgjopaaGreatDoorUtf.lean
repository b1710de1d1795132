/- Walk: the reference's UTF8: characters as a text. -/
import Derived.Test.YtofijhejpgjopaaGreatDoorProg
import Derived.Test.YtofijhejpgjopaaGreatDoorSl
import Derived.Test.YtofijhejpgjopaaGreatDoorScrW
import Derived.Deep.LoopGhost
namespace Go.Proofs.YtofijhejpgjopaaGreatDoor
open Go.RowKit
set_option linter.unusedSimpArgs false
set_option linter.unusedVariables false

theorem bv_of (c : Int) (l : List Int) (h : (Scr.encL c).map (fun b => (b.toNat : Int)) = l) : bv (Scr.encL c) = l.map (Value.int .u8) := by
  rw [← h, List.map_map]; rfl
theorem len_of (c : Int) (l : List Int) (h : (Scr.encL c).map (fun b => (b.toNat : Int)) = l) : (Scr.encL c).length = l.length := by
  rw [← h, List.length_map]
theorem runes_bytes (cs : List Int) : (⟨(cs.flatMap Scr.encL).toArray⟩ : ByteArray) = runesBytes cs := by
  have h : (utf8Of cs).data.toList = cs.flatMap Scr.encL := Scr.utf8Of_list cs
  show _ = utf8Of cs
  rw [← h]

set_option maxRecDepth 100000 in
set_option maxHeartbeats 2000000 in
theorem utf8_any (a : Option Addr) (cap : Nat) (cs : List Int) (w : World) (hin : CellsIn w a (cs.map (Value.int .i32))) (hcap : cs.length ≤ cap) (hm : cap ≤ 9223372036854775807) (hl : cs.length ≤ 1000000) (hg : ∀ c ∈ cs, Scr.good c) :
    Calls Tryz.prog 42 #[.slice a cs.length cap] w fun e w' => e = .returned (.string (runesBytes cs)) ∧ Grew w w' := by
  have Hin := Lib.hid hin
  have Hg := Lib.hid hg
  clear hin hg
  go_enter Tryz.func42, Tryz.ntmps42
  go_wp2_with fail
  go_loopw [3, 4] (fun s3 s4 wr => ∃ (k : Nat) (va : Option Addr) (vc : Nat), k ≤ cs.length ∧ s4 = .int .i64 k ∧ s3 = .slice va ((cs.take k).flatMap Scr.encL).length vc ∧ wr.ownsRow w.heap.size 5 1 s3 ((cs.take k).flatMap Scr.encL).length (bv ((cs.take k).flatMap Scr.encL)) ∧ Grew w wr) (fun _ i _ => cs.length - (intOf i).toNat)
  case atStart => exact ⟨0, none, 0, by omega, rfl, rfl, World.ownsRow_nil _ _ _ _, Grew.refl _⟩
  case round =>
    obtain ⟨k, va, vc, hk, rfl, rfl, hown, hg⟩ := hrel
    have HO := Lib.hid hown
    have HG := Lib.hid hg
    have hfl := Scr.flat_len (cs.take k)
    rw [List.length_take, Nat.min_eq_left hk] at hfl
    clear hown
    by_cases hlt : k < cs.length
    · obtain ⟨b, off, rfl, hb, hx⟩ := (Hin.out.grew hg).at' (by simp; omega)
      have hc := hx k (by simpa using hlt)
      rw [List.getElem_map] at hc
      have hgd := Hg.out cs[k] (List.getElem_mem hlt)
      have hsn := Scr.flat_snoc cs k hlt
      have HS := Lib.hid hsn
      have hsl : ((cs.take (k + 1)).flatMap Scr.encL).length = ((cs.take k).flatMap Scr.encL).length + (Scr.encL cs[k]).length := by rw [hsn, List.length_append]
      have HL := Lib.hid hsl
      clear hx hg hsn hsl
      generalize cs[k] = c at *
      generalize hn : ((cs.take k).flatMap Scr.encL).length = n at *
      have HN := Lib.hid hn
      clear hn
      have hlo : 0 ≤ c := by unfold Scr.good at hgd; omega
      have hhi : c ≤ 1114111 := by unfold Scr.good at hgd; omega
      have HGD := Lib.hid hgd
      by_cases h1 : c < 128
      · have HB := Lib.hid (bv_of c _ (Scr.enc1 c hlo h1))
        have HE := Lib.hid (len_of c _ (Scr.enc1 c hlo h1))
        clear hgd
        go_wp2_with (at_builtin; go_loud (refine wpList_app (by rfl) _ _ 114 (by rfl) elByte w.heap.size _ n (bv ((cs.take k).flatMap Scr.encL)) (by rfl) (HO.out.alloc _) _ 1 1 #[.int .u8 (c)] 5 (by rfl) (heap_alloc_at _ _ _ (by simp [go_sem])) (by rfl) (by intro u hu; simp at hu; subst hu; rfl) (by omega) (by omega) (by unfold maxLen; omega) w (by repeat (first | with_reducible exact HG.out | with_reducible exact Grew.refl _ | with_reducible assumption | with_reducible apply Grew.plus | with_reducible apply Grew.drewN | with_reducible apply Grew.drew | with_reducible apply Grew.alloc | with_reducible refine Grew.setCell ?_ (by simp [go_sem]; try omega) _)) (by omega) (by have := HG.out.size; simp [go_sem]; omega) ?_); intro g vc' w1 hg1 hown1 hkeep hsz1 hat; clear hkeep hat hsz1)
        go_roundw
        case measure => simp [intOf]; omega
        case rel => exact ⟨k + 1, some ⟨g, 0, none⟩, vc', by omega, by go_num, by rw [HL.out, HE.out]; simp, by rw [HL.out, HE.out, HS.out, bv_append, HB.out]; exact hown1, hg1⟩
      · by_cases h2 : c < 2048
        · have HB := Lib.hid (bv_of c _ (Scr.enc2 c (by omega) h2))
          have HE := Lib.hid (len_of c _ (Scr.enc2 c (by omega) h2))
          clear hgd
          go_wp2_with (at_builtin; go_loud (refine wpList_app (by rfl) _ _ 114 (by rfl) elByte w.heap.size _ n (bv ((cs.take k).flatMap Scr.encL)) (by rfl) (HO.out.alloc _) _ 2 2 #[.int .u8 (192 + c / 64), .int .u8 (128 + c % 64)] 5 (by rfl) (heap_alloc_at _ _ _ (by simp [go_sem])) (by rfl) (by intro u hu; simp at hu; rcases hu with rfl | rfl <;> rfl) (by omega) (by omega) (by unfold maxLen; omega) w (by repeat (first | with_reducible exact HG.out | with_reducible exact Grew.refl _ | with_reducible assumption | with_reducible apply Grew.plus | with_reducible apply Grew.drewN | with_reducible apply Grew.drew | with_reducible apply Grew.alloc | with_reducible refine Grew.setCell ?_ (by simp [go_sem]; try omega) _)) (by omega) (by have := HG.out.size; simp [go_sem]; omega) ?_); intro g vc' w1 hg1 hown1 hkeep hsz1 hat; clear hkeep hat hsz1)
          go_roundw
          case measure => simp [intOf]; omega
          case rel => exact ⟨k + 1, some ⟨g, 0, none⟩, vc', by omega, by go_num, by rw [HL.out, HE.out]; simp, by rw [HL.out, HE.out, HS.out, bv_append, HB.out]; exact hown1, hg1⟩
        · by_cases h3 : c < 65536
          · have HB := Lib.hid (bv_of c _ (Scr.enc3 c HGD.out (by omega) h3))
            have HE := Lib.hid (len_of c _ (Scr.enc3 c HGD.out (by omega) h3))
            clear hgd
            go_wp2_with (at_builtin; go_loud (refine wpList_app (by rfl) _ _ 114 (by rfl) elByte w.heap.size _ n (bv ((cs.take k).flatMap Scr.encL)) (by rfl) (HO.out.alloc _) _ 3 3 #[.int .u8 (224 + c / 4096), .int .u8 (128 + c / 64 % 64), .int .u8 (128 + c % 64)] 5 (by rfl) (heap_alloc_at _ _ _ (by simp [go_sem])) (by rfl) (by intro u hu; simp at hu; rcases hu with rfl | rfl | rfl <;> rfl) (by omega) (by omega) (by unfold maxLen; omega) w (by repeat (first | with_reducible exact HG.out | with_reducible exact Grew.refl _ | with_reducible assumption | with_reducible apply Grew.plus | with_reducible apply Grew.drewN | with_reducible apply Grew.drew | with_reducible apply Grew.alloc | with_reducible refine Grew.setCell ?_ (by simp [go_sem]; try omega) _)) (by omega) (by have := HG.out.size; simp [go_sem]; omega) ?_); intro g vc' w1 hg1 hown1 hkeep hsz1 hat; clear hkeep hat hsz1)
            go_roundw
            case measure => simp [intOf]; omega
            case rel => exact ⟨k + 1, some ⟨g, 0, none⟩, vc', by omega, by go_num, by rw [HL.out, HE.out]; simp, by rw [HL.out, HE.out, HS.out, bv_append, HB.out]; exact hown1, hg1⟩
          · have HB := Lib.hid (bv_of c _ (Scr.enc4 c HGD.out (by omega)))
            have HE := Lib.hid (len_of c _ (Scr.enc4 c HGD.out (by omega)))
            clear hgd
            go_wp2_with (at_builtin; go_loud (refine wpList_app (by rfl) _ _ 114 (by rfl) elByte w.heap.size _ n (bv ((cs.take k).flatMap Scr.encL)) (by rfl) (HO.out.alloc _) _ 4 4 #[.int .u8 (240 + c / 262144), .int .u8 (128 + c / 4096 % 64), .int .u8 (128 + c / 64 % 64), .int .u8 (128 + c % 64)] 5 (by rfl) (heap_alloc_at _ _ _ (by simp [go_sem])) (by rfl) (by intro u hu; simp at hu; rcases hu with rfl | rfl | rfl | rfl <;> rfl) (by omega) (by omega) (by unfold maxLen; omega) w (by repeat (first | with_reducible exact HG.out | with_reducible exact Grew.refl _ | with_reducible assumption | with_reducible apply Grew.plus | with_reducible apply Grew.drewN | with_reducible apply Grew.drew | with_reducible apply Grew.alloc | with_reducible refine Grew.setCell ?_ (by simp [go_sem]; try omega) _)) (by omega) (by have := HG.out.size; simp [go_sem]; omega) ?_); intro g vc' w1 hg1 hown1 hkeep hsz1 hat; clear hkeep hat hsz1)
            go_roundw
            case measure => simp [intOf]; omega
            case rel => exact ⟨k + 1, some ⟨g, 0, none⟩, vc', by omega, by go_num, by rw [HL.out, HE.out]; simp, by rw [HL.out, HE.out, HS.out, bv_append, HB.out]; exact hown1, hg1⟩
    · have hk' : k = cs.length := by omega
      have ht : (cs.take k).flatMap Scr.encL = cs.flatMap Scr.encL := by rw [hk', List.take_of_length_le (Nat.le_refl _)]
      have hrd : CellsIn wr va (bv (cs.flatMap Scr.encL)) := by
        obtain ⟨a', c', e, _, _, h, _⟩ := HO.out.rd
        cases e
        rw [ht] at h; exact h
      rw [ht]
      have hcv := conv_bytes (P := Tryz.prog) (dst := 9) Tryz.underlying114 Tryz.underlying5 Tryz.underlying9 vc hrd
      rw [runes_bytes] at hcv
      generalize (cs.flatMap Scr.encL).length = n at hcv ⊢
      clear hrd ht hfl
      subst hk'
      go_wp2_with fail
      go_ret
      exact ⟨rfl, by repeat (first | with_reducible exact HG.out | with_reducible exact Grew.refl _ | with_reducible assumption | with_reducible apply Grew.plus | with_reducible apply Grew.drewN | with_reducible apply Grew.drew | with_reducible apply Grew.alloc | with_reducible refine Grew.setCell ?_ (by simp [go_sem]; try omega) _)⟩
end Go.Proofs.YtofijhejpgjopaaGreatDoor
