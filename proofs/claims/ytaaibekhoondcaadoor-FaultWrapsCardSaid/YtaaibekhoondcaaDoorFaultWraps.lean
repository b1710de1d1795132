/- The walk of the law FaultWraps: a refusal around an error keeps its Codes, and its Chain is that with one link ahead. -/
import Derived.Test.YtaaibekhoondcaaDoorFaultIs
import Derived.Test.YtaaibekhoondcaaDoorFirst
import Derived.Test.YtaaibekhoondcaaDoorErrR
namespace Go.Proofs.YtaaibekhoondcaaDoor
open Go.RowKit
set_option linter.unusedSimpArgs false
set_option linter.unusedVariables false

mutual
theorem chain_len : ∀ e : Err, e.chain.length ≤ e.size
  | .none => by simp [Err.chain]
  | .reason c => by simp [Err.chain]
  | .fault l c i e => by have := chain_len e; rw [Err.chain, Err.size, List.length_cons]; omega
  | .many es => by have := chainL_len es; rw [Err.chain, Err.size]; omega
theorem chainL_len : ∀ es : List Err, (Err.chainL es).length ≤ Err.sizeL es
  | [] => by simp [Err.chainL]
  | e :: es => by have := chain_len e; rw [Err.chainL, Err.sizeL]; omega
end
theorem own1 {W : World} {B base : Nat} {cs : Array Value} {t : TypeId} (h : W.heap[B]? = some (.cells cs t (0, 0))) (hb : base ≤ B) (hs : cs.size = 3) : W.ownsRow base t 3 (.slice (some ⟨B, 0, none⟩) 1 1) 1 cs.toList :=
  ⟨by simpa using hs, .inr ⟨B, 1, cs, rfl, hb, h, Nat.le_refl _, by decide, hs, List.take_of_length_le (by rw [Array.length_toList, hs]; exact Nat.le_refl _)⟩⟩
theorem ErrAt.ifc {S : Nat → Addr} {w : World} {e : Err} {v : Value} (h : ErrAt S w e v) (hn : e ≠ .none) : ∃ t u, v = .iface t u := by
  cases h
  · exact absurd rfl hn
  · exact ⟨_, _, rfl⟩
  · exact ⟨_, _, rfl⟩
  · exact ⟨_, _, rfl⟩
theorem code_fault (l c : ByteArray) (i : Int) (e : Err) : (Err.fault l c i e).code = e.code ∨ e = .none := by
  by_cases h : e = .none
  · exact .inr h
  · left
    have h1 : (Err.fault l c i e).code = ((Err.fault l c i e).walk codeF 99).1 := by unfold Err.code; cases e <;> rfl
    have h2 : e.code = (e.walk codeF 99).1 := by unfold Err.code; cases e <;> first | rfl | exact absurd rfl h
    rw [h1, h2, Err.walk]; rfl
theorem codes_fault (l c : ByteArray) (i : Int) (e : Err) : (Err.fault l c i e).codes = e.codes := by
  show ((Err.fault l c i e).walk codesF []).1 = (e.walk codesF []).1
  rw [Err.walk]; rfl
theorem chain_fault (l c : ByteArray) (i : Int) (e : Err) : (Err.fault l c i e).chain = (l, c, i) :: e.chain := by rw [Err.chain]

set_option maxRecDepth 100000 in
set_option maxHeartbeats 8000000 in
theorem faultWraps_walk {S : Nat → Addr} (t : TreeD) (cs : Array Value) (la : Option Addr) (xs : List Link) (lc : Nat) (w : World) (ht : TreeAt w t cs.toList) (hlc : xs.length ≤ lc) (hlm : lc ≤ 9223372036854775807) (hx : ∀ j (h : j < xs.length), ∃ b off, la = some ⟨b, off, none⟩ ∧ w.cellsAt ⟨b, off + j * 3, none⟩ 3 = some (linkRow (xs[j]'h)) ∧ In64 (xs[j]'h).2.2) (hS : Sents S w) (hE : ErrType w) :
    Calls Tryd.prog 13 #[.agg cs, .slice la xs.length lc] w fun e w' => e = .returned (.bool true) ∧ Grew w w' := by
  have hsz := mk_size 13 60 t
  have MC := Lib.hid (fun W (hW : Grew w W) => make1_any t cs W (ht.grew hW) (hS.grew hW))
  have HS := Lib.hid hS
  have HE := Lib.hid hE
  have HX := Lib.hid hx
  obtain ⟨k, c, a, l, b, ad, n, cap, rfl⟩ := ht.lit
  generalize (mk 13 60 t).1 = e0 at *
  have hes : e0.size ≤ 60 := by omega
  clear ht hS hsz hE hx
  go_enter Tryd.func13, Tryd.ntmps13
  go_wp2_with (go_at_call 42; refine (MC.out _ (by repeat (first | with_reducible exact HG.out | with_reducible exact Grew.refl _ | with_reducible assumption | with_reducible apply Grew.plus | with_reducible apply Grew.drewN | with_reducible apply Grew.drew | with_reducible apply Grew.alloc | with_reducible refine Grew.setCell ?_ (by simp [go_sem]; try omega) _))).mono ?_; rintro x w1 ⟨v, rc, rfl, hev, hri, gx, rfl⟩; obtain ⟨c0, c1, c2, c3, c4, ca, cn, cc, hrl⟩ := rin_lit hri; subst hrl; have HEV := Lib.hid hev.at'; clear hev hri)
  go_loopw [5, 7] (fun s5 s7 wr => ∃ (j : Nat) (e : Err) (v : Value), j ≤ xs.length ∧ j ≤ 40 ∧ s5 = v ∧ s7 = .int .i64 j ∧ ErrAt S wr e v ∧ e.size ≤ 100 + j ∧ Grew w wr) (fun _ i _ => 40 - (intOf i).toNat)
  case atStart => exact ⟨0, e0, v, by omega, by omega, rfl, rfl, HEV.out.grew (by repeat (first | with_reducible exact Grew.refl _ | with_reducible apply Grew.alloc | with_reducible apply Grew.plus | with_reducible apply Grew.drewN)), by omega, by repeat (first | with_reducible exact HG.out | with_reducible exact Grew.refl _ | with_reducible assumption | with_reducible apply Grew.plus | with_reducible apply Grew.drewN | with_reducible apply Grew.drew | with_reducible apply Grew.alloc | with_reducible refine Grew.setCell ?_ (by simp [go_sem]; try omega) _)⟩
  case round =>
    obtain ⟨j, e, v, hjx, hj4, rfl, rfl, he, hsz, hg⟩ := hrel
    have HG := Lib.hid hg
    have HER := Lib.hid he
    by_cases hlt : j < xs.length
    · by_cases h40 : j < 40
      · obtain ⟨lb, off, rfl, hrow, hi64⟩ := HX.out j hlt
        generalize xs[j] = lk at *
        obtain ⟨ll, lcc, li⟩ := lk
        obtain ⟨hli0, hli1⟩ := hi64
        have HR : Hid (∀ W, Grew w W → W.cell? ⟨lb, off + j * 3, none⟩ = some (.string ll) ∧ W.cell? ⟨lb, off + j * 3 + 1, none⟩ = some (.string lcc) ∧ W.cell? ⟨lb, off + j * 3 + 2, none⟩ = some (.int .i64 li)) := fun W hW => by
          have h := cellsAt_grew hW hrow
          have h0 := World.cellsAt_cell h 0 (by omega)
          have h1 := World.cellsAt_cell h 1 (by omega)
          have h2 := World.cellsAt_cell h 2 (by omega)
          exact ⟨by simpa [linkRow] using h0, by simpa [linkRow] using h1, by simpa [linkRow] using h2⟩
        obtain ⟨q0, q1, q2⟩ := HR.out wr hg
        clear hrow hg
        by_cases hnil : e = .none
        · subst hnil
          obtain rfl := he.nil_iff.2 rfl
          clear he
          go_upto_region 5 with fail
          go_region_held3 (fun w' => w'.cell? ⟨lb, off + j * 3, none⟩ = some (.string ll) ∧ w'.cell? ⟨lb, off + j * 3 + 1, none⟩ = some (.string lcc) ∧ w'.cell? ⟨lb, off + j * 3 + 2, none⟩ = some (.int .i64 li)) (exact HR.out _ (by repeat (first | with_reducible exact HG.out | with_reducible exact Grew.refl _ | with_reducible assumption | with_reducible apply Grew.plus | with_reducible apply Grew.drewN | with_reducible apply Grew.drew | with_reducible apply Grew.alloc | with_reducible refine Grew.setCell ?_ (by simp [go_sem]; try omega) _))) (first | (go_at_call 48; refine (new_nil _ _ _ _).mono ?_; rintro x w4 ⟨rfl, rfl⟩))
          all_goals
            go_wp2_with fail
            go_roundw
            case rel => exact ⟨j + 1, .none, _, by omega, by omega, rfl, by go_num, .none, by simp [Err.size], by repeat (first | with_reducible exact HG.out | with_reducible exact Grew.refl _ | with_reducible assumption | with_reducible apply Grew.plus | with_reducible apply Grew.drewN | with_reducible apply Grew.drew | with_reducible apply Grew.alloc | with_reducible refine Grew.setCell ?_ (by simp [go_sem]; try omega) _)⟩
            case measure => simp [intOf]; omega
        · have hv := ErrAt.ifc he hnil
          obtain ⟨t', u', rfl⟩ := hv
          clear he
          by_cases hneg : li < 0
          · have hmx : max li (-1) = -1 := by omega
            go_upto_region 5 with fail
            go_region_held3 (fun w' => w'.cell? ⟨lb, off + j * 3, none⟩ = some (.string ll) ∧ w'.cell? ⟨lb, off + j * 3 + 1, none⟩ = some (.string lcc) ∧ w'.cell? ⟨lb, off + j * 3 + 2, none⟩ = some (.int .i64 li)) (first | exact HR.out _ HG4.out | exact HR.out _ (by repeat (first | with_reducible exact HG.out | with_reducible exact Grew.refl _ | with_reducible assumption | with_reducible apply Grew.plus | with_reducible apply Grew.drewN | with_reducible apply Grew.drew | with_reducible apply Grew.alloc | with_reducible refine Grew.setCell ?_ (by simp [go_sem]; try omega) _))) (first | (go_at_call 48; refine (new_let _ _ _ _ _ _).mono ?_; rintro x w4 ⟨Bf, hBf, rfl, hw4⟩; rw [hmx] at hw4; have HG4 := Lib.hid (show Grew w w4 from Grew.trans (by repeat (first | with_reducible exact HG.out | with_reducible exact Grew.refl _ | with_reducible assumption | with_reducible apply Grew.plus | with_reducible apply Grew.drewN | with_reducible apply Grew.drew | with_reducible apply Grew.alloc | with_reducible refine Grew.setCell ?_ (by simp [go_sem]; try omega) _)) (alloc_grew hw4)); have HFB := Lib.hid (show w4.heap[Bf]? = some (.cells #[.string ll, .string lcc, .int .i64 (-1), .iface t' u'] 106 (0, 0)) from (by rw [hw4]; exact heap_alloc_at _ _ Bf hBf)); have HE4 := Lib.hid (HER.out.grew (Grew.trans (by repeat (first | with_reducible exact Grew.refl _ | with_reducible apply Grew.alloc | with_reducible apply Grew.plus | with_reducible apply Grew.drewN | with_reducible apply Grew.drew)) (alloc_grew hw4))); clear hw4 hBf))
            have HEF : Hid (ErrAt S w4 (.fault ll lcc (-1) e) (faultV ⟨Bf, 0, none⟩)) := Lib.hid (.fault HFB.out HE4.out)
            obtain ⟨q0, q1, q2⟩ := HR.out w4 HG4.out
            go_upto_region 12 with fail
            have hcl := chain_len e
            go_cut [10] (fun s10 wd => ∃ (ar : Option Addr) (cp : Nat), s10 = .slice ar (1 + e.chain.length) cp ∧ wd.ownsRow w4.heap.size 78 3 (.slice ar (1 + e.chain.length) cp) (1 + e.chain.length) ([.string ll, .string lcc, .int .i64 (-1)] ++ linkCells e.chain) ∧ Grew w4 wd)
            case first =>
              go_region_held3 (fun w' => w'.cell? ⟨lb, off + j * 3, none⟩ = some (.string ll) ∧ w'.cell? ⟨lb, off + j * 3 + 1, none⟩ = some (.string lcc) ∧ w'.cell? ⟨lb, off + j * 3 + 2, none⟩ = some (.int .i64 li)) (first | exact HR.out _ (HG4.out.trans HG6.out) | exact HR.out _ (HG4.out.trans (by repeat (first | with_reducible exact Grew.refl _ | with_reducible apply Grew.alloc | with_reducible apply Grew.plus | with_reducible apply Grew.drewN | with_reducible apply Grew.drew)))) (first
                | (go_at_call 49; refine (chain_any (HE4.out.grew (by repeat (first | with_reducible exact Grew.refl _ | with_reducible apply Grew.alloc | with_reducible apply Grew.plus | with_reducible apply Grew.drewN | with_reducible apply Grew.drew))) (by omega)).mono ?_; rintro x w5 ⟨s5, rfl, ho5, gc, rfl⟩; obtain ⟨a5, c5, rfl, hn5, hm5, hin5, _, hno5⟩ := ho5.rd; have HI5 := Lib.hid hin5; have HN5 := Lib.hid hno5; clear ho5 hin5 hno5)
                | (refine step_apps rfl _ _ 50 (by rfl) elLink w4.heap.size _ 1 [.string ll, .string lcc, .int .i64 (-1)] (by rfl) (own1 (cs := #[.string ll, .string lcc, .int .i64 (-1)]) (by repeat (first | with_reducible apply hb_plus | with_reducible apply hb_drew | with_reducible exact heap_alloc_at _ _ _ (by simp [go_sem]))) (by first | (simp [go_sem]; done) | omega | with_reducible exact Grew.size (by repeat (first | with_reducible exact Grew.refl _ | with_reducible apply Grew.alloc | with_reducible apply Grew.plus | with_reducible apply Grew.drewN | with_reducible apply Grew.drew))) rfl) a5 e.chain.length c5 (linkCells e.chain) (by rfl) (HI5.out.grew (by repeat (first | with_reducible exact Grew.refl _ | with_reducible apply Grew.alloc | with_reducible apply Grew.plus | with_reducible apply Grew.drewN | with_reducible apply Grew.drew))) (flat_length _ 3 len_link _) (linkCells_one _) HN5.out (by omega) (by unfold maxLen; omega) w4 (by repeat (first | with_reducible exact Grew.refl _ | with_reducible apply Grew.alloc | with_reducible apply Grew.plus | with_reducible apply Grew.drewN | with_reducible apply Grew.drew)) (Nat.le_refl _) (Grew.size (by repeat (first | with_reducible exact Grew.refl _ | with_reducible apply Grew.alloc | with_reducible apply Grew.plus | with_reducible apply Grew.drewN | with_reducible apply Grew.drew))) ?_; intro ar cp w6 hg6 hown6 hkeep6 hsz6; have HG6 := Lib.hid hg6; have HO6 := Lib.hid hown6; clear hg6 hown6 hkeep6))
              all_goals
                go_wp2_with fail
                go_meet
                exact ⟨ar, cp, rfl, HO6.out, HG6.out⟩
            case rest =>
              obtain ⟨ar, cp, rfl, ho6, hg6⟩ := hcut
              obtain ⟨wd, hwd⟩ : ∃ wd, wd = wc := ⟨_, rfl⟩
              subst hwd
              obtain ⟨xa, xc, hxe, hx1, hx2, hin6, _, _⟩ := ho6.rd
              cases hxe
              have HIN6 := Lib.hid hin6
              have HG6 := Lib.hid hg6
              obtain ⟨b5, off5, rfl, hb5, hrow5⟩ := hin6.row (by simp)
              have HW0 : Hid (∀ W, Grew wd W → W.cellsAt ⟨b5, off5, none⟩ 3 = some [.string ll, .string lcc, .int .i64 (-1)]) := fun W hW => cellsAt_grew hW (by have := hrow5 0 3 (by simp); simpa using this)
              have FC := Lib.hid (fun W (hW : Grew w4 W) => first_fault W (HE.out.grew (HG4.out.trans hW)) (Grew.heap hW HFB.out))
              clear ho6 hg6 hin6 hrow5
              go_upto_region 14 with (go_at_call 50; refine (FC.out _ (HG6.out.trans (by repeat (first | with_reducible exact Grew.refl _ | with_reducible apply Grew.alloc | with_reducible apply Grew.plus | with_reducible apply Grew.drewN | with_reducible apply Grew.drew)))).mono ?_; rintro e w' ⟨rfl, gx, rfl⟩)
              have CF : Hid (∀ W, Grew w4 W → Calls Tryd.prog 51 #[faultV ⟨Bf, 0, none⟩] W fun x w' => x = .returned (.int .i64 e.code) ∧ Grew W w') := fun W hW => by
                have h := code_any (HS.out.grew (HG4.out.trans hW)) (HEF.out.grew hW) (by rw [Err.size]; omega)
                rcases code_fault ll lcc (-1) e with h2 | h2
                · rw [h2] at h; exact h
                · exact absurd h2 hnil
              have CE : Hid (∀ W, Grew w4 W → Calls Tryd.prog 51 #[.iface t' u'] W fun x w' => x = .returned (.int .i64 e.code) ∧ Grew W w') := fun W hW => code_any (HS.out.grew (HG4.out.trans hW)) (HE4.out.grew hW) (by omega)
              have DF : Hid (∀ W, Grew w4 W → Calls Tryd.prog 53 #[faultV ⟨Bf, 0, none⟩] W fun x w' => ∃ a c, x = .returned (.slice a e.codes.length c) ∧ e.codes.length ≤ c ∧ c ≤ 9223372036854775807 ∧ CellsIn w' a (nats e.codes) ∧ Grew W w') := fun W hW => (codes_any (HS.out.grew (HG4.out.trans hW)) (HEF.out.grew hW) (by rw [Err.size]; omega)).mono fun x w' ⟨s, h1, ho, hg⟩ => by
                rw [codes_fault] at ho
                obtain ⟨a, c, rfl, h2, h3, h4, _, _⟩ := ho.rd
                exact ⟨a, c, h1, h2, h3, h4, hg⟩
              have DE : Hid (∀ W, Grew w4 W → Calls Tryd.prog 53 #[.iface t' u'] W fun x w' => ∃ a c, x = .returned (.slice a e.codes.length c) ∧ e.codes.length ≤ c ∧ c ≤ 9223372036854775807 ∧ CellsIn w' a (nats e.codes) ∧ Grew W w') := fun W hW => (codes_any (HS.out.grew (HG4.out.trans hW)) (HE4.out.grew hW) (by omega)).mono fun x w' ⟨s, h1, ho, hg⟩ => by
                obtain ⟨a, c, rfl, h2, h3, h4, _, _⟩ := ho.rd
                exact ⟨a, c, h1, h2, h3, h4, hg⟩
              have HF : Hid (∀ W, Grew w4 W → Calls Tryd.prog 49 #[faultV ⟨Bf, 0, none⟩] W fun x w' => ∃ a c, x = .returned (.slice a (1 + e.chain.length) c) ∧ 1 + e.chain.length ≤ c ∧ c ≤ 9223372036854775807 ∧ CellsIn w' a (linkCells ((ll, lcc, (-1)) :: e.chain)) ∧ Grew W w') := fun W hW => (chain_any (HEF.out.grew hW) (by rw [Err.size]; omega)).mono fun x w' ⟨s, h1, ho, hg⟩ => by
                rw [chain_fault, List.length_cons, Nat.add_comm] at ho
                obtain ⟨a, c, rfl, h2, h3, h4, _, _⟩ := ho.rd
                exact ⟨a, c, h1, h2, h3, h4, hg⟩
              have LK : Hid (∀ W a c, CellsIn W a (linkCells ((ll, lcc, (-1)) :: e.chain)) → 1 + e.chain.length ≤ c → c ≤ 9223372036854775807 → Grew wd W → Calls Tryd.prog 54 #[.slice a (1 + e.chain.length) c, .slice (some ⟨b5, off5, none⟩) (1 + e.chain.length) cp] W fun x w' => x = .returned (.bool true) ∧ Grew W w') := fun W a c h1 h2 h3 h4 => by
                have h := links_eq a (some ⟨b5, off5, none⟩) c cp ((ll, lcc, (-1)) :: e.chain) W h1 (HIN6.out.grew h4) (by rw [List.length_cons]; omega) (by rw [List.length_cons]; omega) h3 hx2
                rw [List.length_cons, Nat.add_comm] at h
                exact h
              generalize hw8 : (wd.plus gx).alloc (.cells #[.string ll, .string lcc, .int .i64 (-1)] 78) = w8
              have hg8 : Grew wd w8 := by rw [← hw8]; exact ((Grew.refl _).plus _).alloc _
              have hb11 : w8.heap[wd.heap.size + gx.blocks.size]? = some (.cells #[.string ll, .string lcc, .int .i64 (-1)] 78 (0, 0)) := by rw [← hw8]; exact heap_alloc_at _ _ _ (by simp [go_sem])
              generalize wd.heap.size + gx.blocks.size = B11 at *
              have HS14 : Hid (∀ W, Grew w8 W → W.cellsAt ⟨B11, 0, none⟩ 3 = some [.string ll, .string lcc, .int .i64 (-1)] ∧ W.cellsAt ⟨b5, off5, none⟩ 3 = some [.string ll, .string lcc, .int .i64 (-1)]) := fun W hW => ⟨World.cellsAt_block (Grew.heap hW hb11) 3 rfl, HW0.out _ (hg8.trans hW)⟩
              have HG8 := Lib.hid hg8
              have HG48 := Lib.hid (HG6.out.trans hg8)
              obtain ⟨k1, k2⟩ := HS14.out w8 (Grew.refl _)
              have hm0 : 0 < 1 + e.chain.length := by omega
              have hmi : (0 : Int) < ((1 + e.chain.length : Nat) : Int) := by omega
              generalize e.code = cd at *
              generalize e.codes = co at *
              generalize 1 + e.chain.length = mm at *
              clear hw8 hg8 hb11
              go_region_held3 (fun w' => w'.cellsAt ⟨B11, 0, none⟩ 3 = some [.string ll, .string lcc, .int .i64 (-1)] ∧ w'.cellsAt ⟨b5, off5, none⟩ 3 = some [.string ll, .string lcc, .int .i64 (-1)]) (exact HS14.out _ (by repeat (first | with_reducible exact Grew.refl _ | with_reducible apply Grew.alloc | with_reducible apply Grew.plus | with_reducible apply Grew.drewN | with_reducible apply Grew.drew))) (first
                | (go_at_call 51; refine (CF.out _ (HG48.out.trans (by repeat (first | with_reducible exact Grew.refl _ | with_reducible apply Grew.alloc | with_reducible apply Grew.plus | with_reducible apply Grew.drewN | with_reducible apply Grew.drew)))).mono ?_; rintro x w' ⟨rfl, ga, rfl⟩)
                | (go_at_call 51; refine (CE.out _ (HG48.out.trans (by repeat (first | with_reducible exact Grew.refl _ | with_reducible apply Grew.alloc | with_reducible apply Grew.plus | with_reducible apply Grew.drewN | with_reducible apply Grew.drew)))).mono ?_; rintro x w' ⟨rfl, gb, rfl⟩)
                | (go_at_call 53; refine (DF.out _ (HG48.out.trans (by repeat (first | with_reducible exact Grew.refl _ | with_reducible apply Grew.alloc | with_reducible apply Grew.plus | with_reducible apply Grew.drewN | with_reducible apply Grew.drew)))).mono ?_; rintro x w' ⟨a7, c7, rfl, hn7, hm7, hi7, gc, rfl⟩; have HI7 := Lib.hid hi7; clear hi7)
                | (go_at_call 53; refine (DE.out _ (HG48.out.trans (by repeat (first | with_reducible exact Grew.refl _ | with_reducible apply Grew.alloc | with_reducible apply Grew.plus | with_reducible apply Grew.drewN | with_reducible apply Grew.drew)))).mono ?_; rintro x w' ⟨a9, c9, rfl, hn9, hm9, hi9, gd, rfl⟩; have HI9 := Lib.hid hi9; clear hi9)
                | (go_at_call 52; refine (ints_any a7 a9 c7 c9 co _ (HI7.out.grew (by repeat (first | with_reducible exact Grew.refl _ | with_reducible apply Grew.alloc | with_reducible apply Grew.plus | with_reducible apply Grew.drewN | with_reducible apply Grew.drew))) (HI9.out.grew (by repeat (first | with_reducible exact Grew.refl _ | with_reducible apply Grew.alloc | with_reducible apply Grew.plus | with_reducible apply Grew.drewN | with_reducible apply Grew.drew))) hn7 hn9 hm7 hm9).mono ?_; rintro x w' ⟨rfl, ge, rfl⟩)
                | (go_at_call 49; refine (HF.out _ (HG48.out.trans (by repeat (first | with_reducible exact Grew.refl _ | with_reducible apply Grew.alloc | with_reducible apply Grew.plus | with_reducible apply Grew.drewN | with_reducible apply Grew.drew)))).mono ?_; rintro x w' ⟨a8, c8, rfl, hn8, hm8, hi8, gf, rfl⟩; have HI8 := Lib.hid hi8; clear hi8)
                | (go_at_call 54; refine (LK.out _ a8 c8 (HI8.out.grew (by repeat (first | with_reducible exact Grew.refl _ | with_reducible apply Grew.alloc | with_reducible apply Grew.plus | with_reducible apply Grew.drewN | with_reducible apply Grew.drew))) hn8 hm8 (HG8.out.trans (by repeat (first | with_reducible exact Grew.refl _ | with_reducible apply Grew.alloc | with_reducible apply Grew.plus | with_reducible apply Grew.drewN | with_reducible apply Grew.drew)))).mono ?_; rintro x w' ⟨rfl, gh, rfl⟩))
              all_goals
                go_wp2_with fail
                go_roundw
                case rel => exact ⟨j + 1, .fault ll lcc (-1) e, _, by omega, by omega, rfl, by go_num, HEF.out.grew (HG48.out.trans (by repeat (first | with_reducible exact Grew.refl _ | with_reducible apply Grew.alloc | with_reducible apply Grew.plus | with_reducible apply Grew.drewN | with_reducible apply Grew.drew))), by rw [Err.size]; omega, HG4.out.trans (HG48.out.trans (by repeat (first | with_reducible exact Grew.refl _ | with_reducible apply Grew.alloc | with_reducible apply Grew.plus | with_reducible apply Grew.drewN | with_reducible apply Grew.drew)))⟩
                case measure => simp [intOf]; omega
          · have hmx : max li (-1) = li := by omega
            go_upto_region 5 with fail
            go_region_held3 (fun w' => w'.cell? ⟨lb, off + j * 3, none⟩ = some (.string ll) ∧ w'.cell? ⟨lb, off + j * 3 + 1, none⟩ = some (.string lcc) ∧ w'.cell? ⟨lb, off + j * 3 + 2, none⟩ = some (.int .i64 li)) (first | exact HR.out _ HG4.out | exact HR.out _ (by repeat (first | with_reducible exact HG.out | with_reducible exact Grew.refl _ | with_reducible assumption | with_reducible apply Grew.plus | with_reducible apply Grew.drewN | with_reducible apply Grew.drew | with_reducible apply Grew.alloc | with_reducible refine Grew.setCell ?_ (by simp [go_sem]; try omega) _))) (first | (go_at_call 48; refine (new_let _ _ _ _ _ _).mono ?_; rintro x w4 ⟨Bf, hBf, rfl, hw4⟩; rw [hmx] at hw4; have HG4 := Lib.hid (show Grew w w4 from Grew.trans (by repeat (first | with_reducible exact HG.out | with_reducible exact Grew.refl _ | with_reducible assumption | with_reducible apply Grew.plus | with_reducible apply Grew.drewN | with_reducible apply Grew.drew | with_reducible apply Grew.alloc | with_reducible refine Grew.setCell ?_ (by simp [go_sem]; try omega) _)) (alloc_grew hw4)); have HFB := Lib.hid (show w4.heap[Bf]? = some (.cells #[.string ll, .string lcc, .int .i64 li, .iface t' u'] 106 (0, 0)) from (by rw [hw4]; exact heap_alloc_at _ _ Bf hBf)); have HE4 := Lib.hid (HER.out.grew (Grew.trans (by repeat (first | with_reducible exact Grew.refl _ | with_reducible apply Grew.alloc | with_reducible apply Grew.plus | with_reducible apply Grew.drewN | with_reducible apply Grew.drew)) (alloc_grew hw4))); clear hw4 hBf))
            have HEF : Hid (ErrAt S w4 (.fault ll lcc li e) (faultV ⟨Bf, 0, none⟩)) := Lib.hid (.fault HFB.out HE4.out)
            obtain ⟨q0, q1, q2⟩ := HR.out w4 HG4.out
            go_upto_region 12 with fail
            have hcl := chain_len e
            go_cut [10] (fun s10 wd => ∃ (ar : Option Addr) (cp : Nat), s10 = .slice ar (1 + e.chain.length) cp ∧ wd.ownsRow w4.heap.size 78 3 (.slice ar (1 + e.chain.length) cp) (1 + e.chain.length) ([.string ll, .string lcc, .int .i64 li] ++ linkCells e.chain) ∧ Grew w4 wd)
            case first =>
              go_region_held3 (fun w' => w'.cell? ⟨lb, off + j * 3, none⟩ = some (.string ll) ∧ w'.cell? ⟨lb, off + j * 3 + 1, none⟩ = some (.string lcc) ∧ w'.cell? ⟨lb, off + j * 3 + 2, none⟩ = some (.int .i64 li)) (first | exact HR.out _ (HG4.out.trans HG6.out) | exact HR.out _ (HG4.out.trans (by repeat (first | with_reducible exact Grew.refl _ | with_reducible apply Grew.alloc | with_reducible apply Grew.plus | with_reducible apply Grew.drewN | with_reducible apply Grew.drew)))) (first
                | (go_at_call 49; refine (chain_any (HE4.out.grew (by repeat (first | with_reducible exact Grew.refl _ | with_reducible apply Grew.alloc | with_reducible apply Grew.plus | with_reducible apply Grew.drewN | with_reducible apply Grew.drew))) (by omega)).mono ?_; rintro x w5 ⟨s5, rfl, ho5, gc, rfl⟩; obtain ⟨a5, c5, rfl, hn5, hm5, hin5, _, hno5⟩ := ho5.rd; have HI5 := Lib.hid hin5; have HN5 := Lib.hid hno5; clear ho5 hin5 hno5)
                | (refine step_apps rfl _ _ 50 (by rfl) elLink w4.heap.size _ 1 [.string ll, .string lcc, .int .i64 li] (by rfl) (own1 (cs := #[.string ll, .string lcc, .int .i64 li]) (by repeat (first | with_reducible apply hb_plus | with_reducible apply hb_drew | with_reducible exact heap_alloc_at _ _ _ (by simp [go_sem]))) (by first | (simp [go_sem]; done) | omega | with_reducible exact Grew.size (by repeat (first | with_reducible exact Grew.refl _ | with_reducible apply Grew.alloc | with_reducible apply Grew.plus | with_reducible apply Grew.drewN | with_reducible apply Grew.drew))) rfl) a5 e.chain.length c5 (linkCells e.chain) (by rfl) (HI5.out.grew (by repeat (first | with_reducible exact Grew.refl _ | with_reducible apply Grew.alloc | with_reducible apply Grew.plus | with_reducible apply Grew.drewN | with_reducible apply Grew.drew))) (flat_length _ 3 len_link _) (linkCells_one _) HN5.out (by omega) (by unfold maxLen; omega) w4 (by repeat (first | with_reducible exact Grew.refl _ | with_reducible apply Grew.alloc | with_reducible apply Grew.plus | with_reducible apply Grew.drewN | with_reducible apply Grew.drew)) (Nat.le_refl _) (Grew.size (by repeat (first | with_reducible exact Grew.refl _ | with_reducible apply Grew.alloc | with_reducible apply Grew.plus | with_reducible apply Grew.drewN | with_reducible apply Grew.drew))) ?_; intro ar cp w6 hg6 hown6 hkeep6 hsz6; have HG6 := Lib.hid hg6; have HO6 := Lib.hid hown6; clear hg6 hown6 hkeep6))
              all_goals
                go_wp2_with fail
                go_meet
                exact ⟨ar, cp, rfl, HO6.out, HG6.out⟩
            case rest =>
              obtain ⟨ar, cp, rfl, ho6, hg6⟩ := hcut
              obtain ⟨wd, hwd⟩ : ∃ wd, wd = wc := ⟨_, rfl⟩
              subst hwd
              obtain ⟨xa, xc, hxe, hx1, hx2, hin6, _, _⟩ := ho6.rd
              cases hxe
              have HIN6 := Lib.hid hin6
              have HG6 := Lib.hid hg6
              obtain ⟨b5, off5, rfl, hb5, hrow5⟩ := hin6.row (by simp)
              have HW0 : Hid (∀ W, Grew wd W → W.cellsAt ⟨b5, off5, none⟩ 3 = some [.string ll, .string lcc, .int .i64 li]) := fun W hW => cellsAt_grew hW (by have := hrow5 0 3 (by simp); simpa using this)
              have FC := Lib.hid (fun W (hW : Grew w4 W) => first_fault W (HE.out.grew (HG4.out.trans hW)) (Grew.heap hW HFB.out))
              clear ho6 hg6 hin6 hrow5
              go_upto_region 14 with (go_at_call 50; refine (FC.out _ (HG6.out.trans (by repeat (first | with_reducible exact Grew.refl _ | with_reducible apply Grew.alloc | with_reducible apply Grew.plus | with_reducible apply Grew.drewN | with_reducible apply Grew.drew)))).mono ?_; rintro e w' ⟨rfl, gx, rfl⟩)
              have CF : Hid (∀ W, Grew w4 W → Calls Tryd.prog 51 #[faultV ⟨Bf, 0, none⟩] W fun x w' => x = .returned (.int .i64 e.code) ∧ Grew W w') := fun W hW => by
                have h := code_any (HS.out.grew (HG4.out.trans hW)) (HEF.out.grew hW) (by rw [Err.size]; omega)
                rcases code_fault ll lcc li e with h2 | h2
                · rw [h2] at h; exact h
                · exact absurd h2 hnil
              have CE : Hid (∀ W, Grew w4 W → Calls Tryd.prog 51 #[.iface t' u'] W fun x w' => x = .returned (.int .i64 e.code) ∧ Grew W w') := fun W hW => code_any (HS.out.grew (HG4.out.trans hW)) (HE4.out.grew hW) (by omega)
              have DF : Hid (∀ W, Grew w4 W → Calls Tryd.prog 53 #[faultV ⟨Bf, 0, none⟩] W fun x w' => ∃ a c, x = .returned (.slice a e.codes.length c) ∧ e.codes.length ≤ c ∧ c ≤ 9223372036854775807 ∧ CellsIn w' a (nats e.codes) ∧ Grew W w') := fun W hW => (codes_any (HS.out.grew (HG4.out.trans hW)) (HEF.out.grew hW) (by rw [Err.size]; omega)).mono fun x w' ⟨s, h1, ho, hg⟩ => by
                rw [codes_fault] at ho
                obtain ⟨a, c, rfl, h2, h3, h4, _, _⟩ := ho.rd
                exact ⟨a, c, h1, h2, h3, h4, hg⟩
              have DE : Hid (∀ W, Grew w4 W → Calls Tryd.prog 53 #[.iface t' u'] W fun x w' => ∃ a c, x = .returned (.slice a e.codes.length c) ∧ e.codes.length ≤ c ∧ c ≤ 9223372036854775807 ∧ CellsIn w' a (nats e.codes) ∧ Grew W w') := fun W hW => (codes_any (HS.out.grew (HG4.out.trans hW)) (HE4.out.grew hW) (by omega)).mono fun x w' ⟨s, h1, ho, hg⟩ => by
                obtain ⟨a, c, rfl, h2, h3, h4, _, _⟩ := ho.rd
                exact ⟨a, c, h1, h2, h3, h4, hg⟩
              have HF : Hid (∀ W, Grew w4 W → Calls Tryd.prog 49 #[faultV ⟨Bf, 0, none⟩] W fun x w' => ∃ a c, x = .returned (.slice a (1 + e.chain.length) c) ∧ 1 + e.chain.length ≤ c ∧ c ≤ 9223372036854775807 ∧ CellsIn w' a (linkCells ((ll, lcc, li) :: e.chain)) ∧ Grew W w') := fun W hW => (chain_any (HEF.out.grew hW) (by rw [Err.size]; omega)).mono fun x w' ⟨s, h1, ho, hg⟩ => by
                rw [chain_fault, List.length_cons, Nat.add_comm] at ho
                obtain ⟨a, c, rfl, h2, h3, h4, _, _⟩ := ho.rd
                exact ⟨a, c, h1, h2, h3, h4, hg⟩
              have LK : Hid (∀ W a c, CellsIn W a (linkCells ((ll, lcc, li) :: e.chain)) → 1 + e.chain.length ≤ c → c ≤ 9223372036854775807 → Grew wd W → Calls Tryd.prog 54 #[.slice a (1 + e.chain.length) c, .slice (some ⟨b5, off5, none⟩) (1 + e.chain.length) cp] W fun x w' => x = .returned (.bool true) ∧ Grew W w') := fun W a c h1 h2 h3 h4 => by
                have h := links_eq a (some ⟨b5, off5, none⟩) c cp ((ll, lcc, li) :: e.chain) W h1 (HIN6.out.grew h4) (by rw [List.length_cons]; omega) (by rw [List.length_cons]; omega) h3 hx2
                rw [List.length_cons, Nat.add_comm] at h
                exact h
              generalize hw8 : (wd.plus gx).alloc (.cells #[.string ll, .string lcc, .int .i64 li] 78) = w8
              have hg8 : Grew wd w8 := by rw [← hw8]; exact ((Grew.refl _).plus _).alloc _
              have hb11 : w8.heap[wd.heap.size + gx.blocks.size]? = some (.cells #[.string ll, .string lcc, .int .i64 li] 78 (0, 0)) := by rw [← hw8]; exact heap_alloc_at _ _ _ (by simp [go_sem])
              generalize wd.heap.size + gx.blocks.size = B11 at *
              have HS14 : Hid (∀ W, Grew w8 W → W.cellsAt ⟨B11, 0, none⟩ 3 = some [.string ll, .string lcc, .int .i64 li] ∧ W.cellsAt ⟨b5, off5, none⟩ 3 = some [.string ll, .string lcc, .int .i64 li]) := fun W hW => ⟨World.cellsAt_block (Grew.heap hW hb11) 3 rfl, HW0.out _ (hg8.trans hW)⟩
              have HG8 := Lib.hid hg8
              have HG48 := Lib.hid (HG6.out.trans hg8)
              obtain ⟨k1, k2⟩ := HS14.out w8 (Grew.refl _)
              have hm0 : 0 < 1 + e.chain.length := by omega
              have hmi : (0 : Int) < ((1 + e.chain.length : Nat) : Int) := by omega
              generalize e.code = cd at *
              generalize e.codes = co at *
              generalize 1 + e.chain.length = mm at *
              clear hw8 hg8 hb11
              go_region_held3 (fun w' => w'.cellsAt ⟨B11, 0, none⟩ 3 = some [.string ll, .string lcc, .int .i64 li] ∧ w'.cellsAt ⟨b5, off5, none⟩ 3 = some [.string ll, .string lcc, .int .i64 li]) (exact HS14.out _ (by repeat (first | with_reducible exact Grew.refl _ | with_reducible apply Grew.alloc | with_reducible apply Grew.plus | with_reducible apply Grew.drewN | with_reducible apply Grew.drew))) (first
                | (go_at_call 51; refine (CF.out _ (HG48.out.trans (by repeat (first | with_reducible exact Grew.refl _ | with_reducible apply Grew.alloc | with_reducible apply Grew.plus | with_reducible apply Grew.drewN | with_reducible apply Grew.drew)))).mono ?_; rintro x w' ⟨rfl, ga, rfl⟩)
                | (go_at_call 51; refine (CE.out _ (HG48.out.trans (by repeat (first | with_reducible exact Grew.refl _ | with_reducible apply Grew.alloc | with_reducible apply Grew.plus | with_reducible apply Grew.drewN | with_reducible apply Grew.drew)))).mono ?_; rintro x w' ⟨rfl, gb, rfl⟩)
                | (go_at_call 53; refine (DF.out _ (HG48.out.trans (by repeat (first | with_reducible exact Grew.refl _ | with_reducible apply Grew.alloc | with_reducible apply Grew.plus | with_reducible apply Grew.drewN | with_reducible apply Grew.drew)))).mono ?_; rintro x w' ⟨a7, c7, rfl, hn7, hm7, hi7, gc, rfl⟩; have HI7 := Lib.hid hi7; clear hi7)
                | (go_at_call 53; refine (DE.out _ (HG48.out.trans (by repeat (first | with_reducible exact Grew.refl _ | with_reducible apply Grew.alloc | with_reducible apply Grew.plus | with_reducible apply Grew.drewN | with_reducible apply Grew.drew)))).mono ?_; rintro x w' ⟨a9, c9, rfl, hn9, hm9, hi9, gd, rfl⟩; have HI9 := Lib.hid hi9; clear hi9)
                | (go_at_call 52; refine (ints_any a7 a9 c7 c9 co _ (HI7.out.grew (by repeat (first | with_reducible exact Grew.refl _ | with_reducible apply Grew.alloc | with_reducible apply Grew.plus | with_reducible apply Grew.drewN | with_reducible apply Grew.drew))) (HI9.out.grew (by repeat (first | with_reducible exact Grew.refl _ | with_reducible apply Grew.alloc | with_reducible apply Grew.plus | with_reducible apply Grew.drewN | with_reducible apply Grew.drew))) hn7 hn9 hm7 hm9).mono ?_; rintro x w' ⟨rfl, ge, rfl⟩)
                | (go_at_call 49; refine (HF.out _ (HG48.out.trans (by repeat (first | with_reducible exact Grew.refl _ | with_reducible apply Grew.alloc | with_reducible apply Grew.plus | with_reducible apply Grew.drewN | with_reducible apply Grew.drew)))).mono ?_; rintro x w' ⟨a8, c8, rfl, hn8, hm8, hi8, gf, rfl⟩; have HI8 := Lib.hid hi8; clear hi8)
                | (go_at_call 54; refine (LK.out _ a8 c8 (HI8.out.grew (by repeat (first | with_reducible exact Grew.refl _ | with_reducible apply Grew.alloc | with_reducible apply Grew.plus | with_reducible apply Grew.drewN | with_reducible apply Grew.drew))) hn8 hm8 (HG8.out.trans (by repeat (first | with_reducible exact Grew.refl _ | with_reducible apply Grew.alloc | with_reducible apply Grew.plus | with_reducible apply Grew.drewN | with_reducible apply Grew.drew)))).mono ?_; rintro x w' ⟨rfl, gh, rfl⟩))
              all_goals
                go_wp2_with fail
                go_roundw
                case rel => exact ⟨j + 1, .fault ll lcc li e, _, by omega, by omega, rfl, by go_num, HEF.out.grew (HG48.out.trans (by repeat (first | with_reducible exact Grew.refl _ | with_reducible apply Grew.alloc | with_reducible apply Grew.plus | with_reducible apply Grew.drewN | with_reducible apply Grew.drew))), by rw [Err.size]; omega, HG4.out.trans (HG48.out.trans (by repeat (first | with_reducible exact Grew.refl _ | with_reducible apply Grew.alloc | with_reducible apply Grew.plus | with_reducible apply Grew.drewN | with_reducible apply Grew.drew)))⟩
                case measure => simp [intOf]; omega
      · obtain rfl : j = 40 := by omega
        have WK := Lib.hid (fun W (hW : Grew wr W) => wakes1 W (HS.out.grew (HG.out.trans hW)))
        clear he HER HX MC HE
        go_wp2_with (go_at_call 46; refine (WK.out _ (Grew.refl _)).mono ?_; rintro e w' ⟨rfl, gx, rfl⟩)
        go_ret
        exact ⟨rfl, HG.out.plus _⟩
    · obtain rfl : j = xs.length := by omega
      have WK := Lib.hid (fun W (hW : Grew wr W) => wakes1 W (HS.out.grew (HG.out.trans hW)))
      clear he HER HX MC HE
      go_wp2_with (go_at_call 46; refine (WK.out _ (Grew.refl _)).mono ?_; rintro e w' ⟨rfl, gx, rfl⟩)
      go_ret
      exact ⟨rfl, HG.out.plus _⟩
end Go.Proofs.YtaaibekhoondcaaDoor
