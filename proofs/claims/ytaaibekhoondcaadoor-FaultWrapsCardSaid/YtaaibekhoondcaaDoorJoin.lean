/- Walks: Join, the program's and the document's. -/
import Derived.Test.YtaaibekhoondcaaDoorRErr
namespace Go.Proofs.YtaaibekhoondcaaDoor
open Go.RowKit
set_option linter.unusedSimpArgs false
set_option linter.unusedVariables false

theorem keep_a {w : World} {q : Nat} {o o' : Obj} (h : w.heap[q]? = some o) : (w.alloc o').heap[q]? = some o := by
  rw [heap_alloc_past _ _ _ (Array.getElem?_eq_some_iff.1 h).1, h]
theorem own_ne' {w : World} {base : Nat} {e : TypeId} {size n : Nat} {v : Value} {xs : List Value} (h : w.ownsRow base e size v n xs) (q : Nat) (hq : q < base) : v.ownBlock ≠ some q := fun e => by have := (h.lt q e).1; omega
def some1 {β : Type} (z : Err × β) : Bool := !z.1.isNone
theorem some_take {β : Type} (zs : List (Err × β)) (k : Nat) (h : k < zs.length) : (zs.take (k + 1)).filter some1 = (zs.take k).filter some1 ++ (if some1 zs[k] then [zs[k]] else []) := by
  rw [List.take_add_one, List.getElem?_eq_getElem h, Option.toList_some, List.filter_append]
  congr 1
  by_cases hs : some1 zs[k] = true
  · rw [if_pos hs]; simp [hs]
  · rw [if_neg hs]; simp [hs]
theorem some_map {β : Type} (zs : List (Err × β)) : (zs.map (·.1)).filter (fun e => !e.isNone) = (zs.filter some1).map (·.1) := by
  rw [List.filter_map]; rfl
theorem join_none {β : Type} {zs : List (Err × β)} (h : zs.filter some1 = []) : joinE (zs.map (·.1)) = .none := by
  unfold joinE; rw [some_map, h]; rfl
theorem join_one {β : Type} {zs : List (Err × β)} {z : Err × β} (h : zs.filter some1 = [z]) : joinE (zs.map (·.1)) = z.1 := by
  unfold joinE; rw [some_map, h]; rfl
theorem join_many {β : Type} {zs : List (Err × β)} {z z' : Err × β} {l : List (Err × β)} (h : zs.filter some1 = z :: z' :: l) : joinE (zs.map (·.1)) = .many ((z :: z' :: l).map (·.1)) := by
  unfold joinE; rw [some_map, h]; rfl
theorem some_sub {β : Type} {zs : List (Err × β)} {z : Err × β} (h : z ∈ zs.filter some1) : z ∈ zs := (List.mem_filter.1 h).1
theorem some_len {β : Type} (zs : List (Err × β)) : (zs.filter some1).length ≤ zs.length := List.length_filter_le _ _

set_option maxRecDepth 100000 in
set_option maxHeartbeats 4000000 in
/-- The program's Join. -/
theorem join_errs {S : Nat → Addr} {U : Nat → Prop} (zs : List (Err × Value)) (a : Option Addr) (cap : Nat) (w : World) (hin : CellsIn w a (zs.map (·.2))) (hl : zs.length ≤ 1000) (hc : zs.length ≤ cap) (hm : cap ≤ 9223372036854775807) (hz : ∀ z ∈ zs, ErrIn S w U z.1 z.2) :
    Calls Tryd.prog 89 #[.slice a zs.length cap] w fun x w' => ∃ v, x = .returned v ∧ ErrIn S w' (fun q => U q ∨ w.heap.size ≤ q) (joinE (zs.map (·.1))) v ∧ Grew w w' := by
  have HIN := Lib.hid hin
  have HZ := Lib.hid hz
  clear hin hz
  go_enter Tryd.func89, Tryd.ntmps89
  go_wp2_with fail
  go_loopw [3, 8] (fun s3 s8 wr => ∃ (k : Nat) (va : Option Addr) (vc : Nat) (ys : List (Err × Value)) (m : Nat), k ≤ zs.length ∧ s8 = .int .i64 k ∧ s3 = .slice va m vc ∧ ys = (zs.take k).filter some1 ∧ m = ys.length ∧ wr.ownsRow w.heap.size 33 1 (.slice va m vc) m (ys.map (·.2)) ∧ Grew w wr) (fun _ i _ => zs.length - (intOf i).toNat)
  case atStart => exact ⟨0, none, 0, [], 0, by omega, rfl, rfl, rfl, rfl, World.ownsRow_nil _ _ _ _, Grew.refl _⟩
  case round =>
    obtain ⟨k, va, vc, ys, m, hk, rfl, rfl, hys, hmy, hown, hg⟩ := hrel
    have HG := Lib.hid hg
    have HO := Lib.hid hown
    have hml : m ≤ 1000 := by
      rw [hmy, hys]
      have h1 := some_len (zs.take k)
      have h2 : (zs.take k).length ≤ zs.length := by rw [List.length_take]; omega
      omega
    clear hg hown
    by_cases hlt : k < zs.length
    · have hst := some_take zs k hlt
      rw [← hys] at hst
      have HY := Lib.hid hst
      have HYS := Lib.hid hys
      have HMY := Lib.hid hmy
      obtain ⟨b, off, rfl, hb, hcc⟩ := (HIN.out.grew HG.out).at' (by simp; omega)
      have hck := hcc k (by simpa using hlt)
      rw [List.getElem_map] at hck
      have hze := HZ.out zs[k] (List.getElem_mem hlt)
      clear hst hys hmy hcc
      generalize zs[k] = z at *
      obtain ⟨e, v⟩ := z
      simp only at hck hze
      rcases hze.nil_iff with ⟨hn, rfl⟩ | ⟨hn, t, u, rfl⟩
      · have hs1 : some1 ((e, .nilIface) : Err × Value) = false := by simp [some1, hn]
        rw [hs1] at HY
        have HH := Lib.hid hze
        clear hze
        go_wp2_with fail
        go_roundw
        case rel => exact ⟨k + 1, va, vc, ys, m, by omega, by go_num, rfl, by have := HY.out; simpa using this.symm, HMY.out, HO.out, by repeat (first | with_reducible exact HG.out | with_reducible exact Grew.refl _ | with_reducible assumption | with_reducible apply Grew.plus | with_reducible apply Grew.drewN | with_reducible apply Grew.drew | with_reducible apply Grew.alloc | with_reducible refine Grew.setCell ?_ (by simp [go_sem]; try omega) _)⟩
        case measure => simp [intOf]; omega
      · have hs1 : some1 ((e, .iface t u) : Err × Value) = true := by simp [some1, hn]
        rw [hs1] at HY
        have HH := Lib.hid hze
        clear hze
        go_wp2_with (at_builtin; go_loud (refine wpList_app (by rfl) _ _ 130 (by rfl) elErr w.heap.size _ m (ys.map (·.2)) (by rfl) (HO.out.alloc _) _ 1 1 #[.iface t u] 33 (by rfl) (heap_alloc_at _ _ _ (by simp [go_sem])) (by rfl) (by intro u' hu; simp at hu; subst hu; rfl) (by omega) (by omega) (by unfold maxLen; omega) w (HG.out.alloc _) (Nat.le_refl _) (by have := HG.out.size; simp; omega) ?_); intro g cap1 w1 hg1 hown1 hkeep hsz1 hat; have HO1 := Lib.hid hown1; have HG1 := Lib.hid hg1; clear hown1 hg1 hkeep hat)
        go_roundw
        case rel => exact ⟨k + 1, _, _, ys ++ [(e, .iface t u)], m + 1, by omega, by go_num, rfl, by have := HY.out; simpa using this.symm, by rw [HMY.out]; simp, by rw [List.map_append]; exact HO1.out, HG1.out⟩
        case measure => simp [intOf]; omega
    · obtain rfl : k = zs.length := by omega
      rw [List.take_length] at hys
      have HYS := Lib.hid hys
      have hsub : ∀ z ∈ ys, z ∈ zs := fun z hz => some_sub (by rw [← hys]; exact hz)
      have HSUB := Lib.hid hsub
      clear hsub
      rcases ys with _ | ⟨z, _ | ⟨z', l⟩⟩
      · have hj := join_none (β := Value) hys.symm
        have HJ := Lib.hid hj
        obtain rfl : m = 0 := hmy
        clear hys hj
        go_wp2_with fail
        go_ret
        exact ⟨_, rfl, by rw [HJ.out]; exact .none, by repeat (first | with_reducible exact HG.out | with_reducible exact Grew.refl _ | with_reducible assumption | with_reducible apply Grew.plus | with_reducible apply Grew.drewN | with_reducible apply Grew.drew | with_reducible apply Grew.alloc | with_reducible refine Grew.setCell ?_ (by simp [go_sem]; try omega) _)⟩
      ·
        have hj := join_one (β := Value) hys.symm
        have HJ := Lib.hid hj
        obtain rfl : m = 1 := hmy
        clear hys hj
        obtain ⟨xa, xc, hxe, hx1, hx2, hin, _, _⟩ := HO.out.rd
        cases hxe
        obtain ⟨b', off', rfl, hb', hcc'⟩ := hin.at' (by simp)
        have hc0 := hcc' 0 (by simp)
        simp only [Nat.add_zero, List.map_cons, List.getElem_cons_zero] at hc0
        have hze := (HZ.out z (HSUB.out z (by simp)))
        have HH := Lib.hid hze
        clear hze hin hcc'
        go_wp2_with fail
        go_ret
        exact ⟨_, rfl, by rw [HJ.out]; exact HH.out.keep (fun q hq hl => ⟨.inl hq, HG.out.block q hl⟩), by repeat (first | with_reducible exact HG.out | with_reducible exact Grew.refl _ | with_reducible assumption | with_reducible apply Grew.plus | with_reducible apply Grew.drewN | with_reducible apply Grew.drew | with_reducible apply Grew.alloc | with_reducible refine Grew.setCell ?_ (by simp [go_sem]; try omega) _)⟩
      ·
        have hj := join_many (β := Value) hys.symm
        have HJ := Lib.hid hj
        have hm2 : 2 ≤ m := by rw [hmy]; simp
        have HMY := Lib.hid hmy
        clear hys hj hmy
        generalize hzz : z :: z' :: l = ys2 at *
        go_wp2_with fail
        go_ret
        refine ⟨_, rfl, ?_, by repeat (first | with_reducible exact HG.out | with_reducible exact Grew.refl _ | with_reducible assumption | with_reducible apply Grew.plus | with_reducible apply Grew.drewN | with_reducible apply Grew.drew | with_reducible apply Grew.alloc | with_reducible refine Grew.setCell ?_ (by simp [go_sem]; try omega) _)⟩
        rw [HJ.out]
        obtain ⟨xa, xc, hxe, hx1, hx2, hin, hbl, hno⟩ := HO.out.rd
        cases hxe
        refine ErrIn.many (b := wr.heap.size) (cap := vc) (a := va) (vs := ys2.map (·.2)) (.inr HG.out.size) (fun q hq _ => .inr (hbl q hq).1) ?_ (hin.grew ((Grew.refl _).alloc _)) (fun h => ?_) (by simp) (by rw [List.length_map, ← HMY.out]; omega) (fun u hu => ?_) (fun i e v he hv => ?_)
        · rw [List.length_map]
          rw [← HMY.out]; exact heap_alloc_at _ _ _ rfl
        · have := hno h; exact ⟨by rw [List.length_map, ← HMY.out]; exact this.1, this.2⟩
        · obtain ⟨z2, hz2, rfl⟩ := List.mem_map.1 hu
          exact (HZ.out z2 (HSUB.out z2 hz2)).at'.one
        · rw [List.getElem?_map, Option.map_eq_some_iff] at he hv
          obtain ⟨z2, hz2, rfl⟩ := he
          obtain ⟨z3, hz3, rfl⟩ := hv
          rw [hz2] at hz3; cases hz3
          exact (HZ.out z2 (HSUB.out z2 (List.mem_of_getElem? hz2))).keep (fun q hq hl => ⟨.inl hq, (HG.out.alloc _).block q hl⟩)
end Go.Proofs.YtaaibekhoondcaaDoor
