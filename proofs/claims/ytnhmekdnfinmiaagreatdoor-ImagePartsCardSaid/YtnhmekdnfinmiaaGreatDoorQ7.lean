/- Texts of this proof, merged (printed by wip/pmerge.py out of RdM, RdN, RdO, RdP, RdQ, RdR, ParC). -/
import Derived.Test.YtnhmekdnfinmiaaGreatDoorQ6
import Derived.Test.YtnhmekdnfinmiaaGreatDoorQ1
/- Walks: the document's reader of packet: Rounds (printed by wip/gen_rdm.py). -/
namespace Go.Par
theorem pad8_pad8 {t : List Nat} (h : t.length ≤ 8) : pad8 (pad8 t) = pad8 t := by
  have := pad8_len h
  unfold pad8 at this ⊢
  rw [this]; simp
theorem mid_push (A ts C : List Nat) (h : ts.length < 8) (v : Nat) : (A ++ (pad8 ts ++ C)).set (A.length + ts.length) v = A ++ (pad8 (ts ++ [v]) ++ C) := by
  rw [List.set_append_right _ _ (by omega), Nat.add_sub_cancel_left, List.set_append_left _ _ (by rw [pad8_len (by omega)]; exact h), pad8_push h]
theorem putA_arr : ∀ (xs zs : List Nat) (o : Nat), putA (arr zs) o (arr xs).toList = arr (putL zs o xs)
  | [], zs, o => rfl
  | x :: xs, zs, o => by
    show putA ((arr zs).setIfInBounds o (.int .i64 x)) (o + 1) (arr xs).toList = _
    rw [arr_set, putA_arr xs]; rfl
def droundsB (l : List UInt8) (n i : Nat) (xs : List PRound) : DM (List PRound) := (dRound l i n).bind fun r => DM.pure (xs ++ [r])
theorem dRounds_eq (l : List UInt8) : dRounds l = (dNum l 8).bind fun n => dLoop' (droundsB l n) n 0 [] := rfl
theorem dLoop'_succ {σ : Type} (body : Nat → σ → DM σ) (n i : Nat) (x : σ) (s : DSt) : dLoop' body (n + 1) i x s = dLoop' body n (i + 1) (body i x s).1 (body i x s).2 := rfl
end Go.Par
namespace Go.Proofs.YtnhmekdnfinmiaaGreatDoor
open Go.RowKit Go.Par
set_option linter.unusedSimpArgs false
set_option linter.unusedVariables false
noncomputable def roundsLoop : Code := (((Tryz.f19.body.map loopsOf).getD [])[0]?).getD .skip
noncomputable def votesLoop : Code := ((loopsOf roundsLoop)[0]?).getD .skip
section
variable {w w' W W' : World} {D2 D9 : Nat} {a : Option Addr} {cap : Nat} {l : List UInt8} {cb os : List Nat} {s : DSt}
set_option maxRecDepth 1000000 in
set_option maxHeartbeats 4000000 in
theorem votes_loop {Q : Exit → Act → World → Prop} {B2 B3 k m : Nat} {W0 : World} (c1 c4 c6 c9 c10 c11 c12 c13 c14 c15 c16 c17 c18 c19 c20 c21 c22 c23 c24 c25 c26 c27 c28 c29 c30 c31 c32 c33 c34 c35 c36 c37 c38 c39 c40 c41 c42 c43 c44 c45 c46 c47 c48 c49 c50 c51 c52 c53 c54 c55 c56 c57 c58 c59 c60 c61 c62 c63 c64 c65 c66 c67 c68 c69 c70 c71 c72 c73 c74 c75 c76 c77 c78 c79 c80 c81 c82 c83 c84 c85 c86 c87 c88 c89 c90 c91 c92 c93 c94 : Value) (A8 C8 : List Nat) (hA : A8.length = k * 18 + 9) (hC : (A8 ++ (pad8 [] ++ C8)).length = 144) (hk : k < 8) (hm : m ≤ 8) (h23 : B2 ≠ B3)
    (q0 : DQ w D2 D9 a cap l cb W0 s [B3, B2]) (o2 : W0.heap[B2]? = some (.cells (arr (rz [])) 33 (0, 0))) (o3 : W0.heap[B3]? = some (.cells (arr (A8 ++ (pad8 [] ++ C8))) 33 (0, 0)))
    (HQP : ∀ c (a a' : Act) w, a.defers = a'.defers → Q (.panic c) a w → Q (.panic c) a' w)
    (hok : ∀ (ts : List Nat) (s' : DSt) (w' : World) u6 u8 u54 u55 u56 u57 u58 u59 u60 u61 u62 u63 u64 u65 u66 u67 u68 u69 u70 u71 u72 u73 u74 u75 u76 u77 u78 u79 u80 u81 u82 u83 u84 u85 u86 u87 u88, dLoop' (drowB l 2 m) m 0 [] s = (ts, s') → ts.length ≤ 8 → DQ w D2 D9 a cap l cb w' s' [B3, B2] → w'.heap[B2]? = some (.cells (arr (rz [])) 33 (0, 0)) → w'.heap[B3]? = some (.cells (arr (A8 ++ (pad8 ts ++ C8))) 33 (0, 0)) → Q (.exit 2) ⟨(pt D9 :: c1 :: .pointer (some ⟨B2, 0, none⟩) :: .pointer (some ⟨B3, 0, none⟩) :: c4 :: .int .i64 k :: u6 :: .int .i64 m :: u8 :: c9 :: c10 :: c11 :: c12 :: c13 :: c14 :: c15 :: c16 :: c17 :: c18 :: c19 :: c20 :: c21 :: c22 :: c23 :: c24 :: c25 :: c26 :: c27 :: c28 :: c29 :: c30 :: c31 :: c32 :: c33 :: c34 :: c35 :: c36 :: c37 :: c38 :: c39 :: c40 :: c41 :: c42 :: c43 :: c44 :: c45 :: c46 :: c47 :: c48 :: c49 :: c50 :: c51 :: c52 :: c53 :: u54 :: u55 :: u56 :: u57 :: u58 :: u59 :: u60 :: u61 :: u62 :: u63 :: u64 :: u65 :: u66 :: u67 :: u68 :: u69 :: u70 :: u71 :: u72 :: u73 :: u74 :: u75 :: u76 :: u77 :: u78 :: u79 :: u80 :: u81 :: u82 :: u83 :: u84 :: u85 :: u86 :: u87 :: u88 :: c89 :: c90 :: c91 :: c92 :: c93 :: c94 :: []).toArray, []⟩ w') :
    Code.wp Tryz.prog (.loop votesLoop) Q ⟨(pt D9 :: c1 :: .pointer (some ⟨B2, 0, none⟩) :: .pointer (some ⟨B3, 0, none⟩) :: c4 :: .int .i64 k :: c6 :: .int .i64 m :: .int .i64 0 :: c9 :: c10 :: c11 :: c12 :: c13 :: c14 :: c15 :: c16 :: c17 :: c18 :: c19 :: c20 :: c21 :: c22 :: c23 :: c24 :: c25 :: c26 :: c27 :: c28 :: c29 :: c30 :: c31 :: c32 :: c33 :: c34 :: c35 :: c36 :: c37 :: c38 :: c39 :: c40 :: c41 :: c42 :: c43 :: c44 :: c45 :: c46 :: c47 :: c48 :: c49 :: c50 :: c51 :: c52 :: c53 :: c54 :: c55 :: c56 :: c57 :: c58 :: c59 :: c60 :: c61 :: c62 :: c63 :: c64 :: c65 :: c66 :: c67 :: c68 :: c69 :: c70 :: c71 :: c72 :: c73 :: c74 :: c75 :: c76 :: c77 :: c78 :: c79 :: c80 :: c81 :: c82 :: c83 :: c84 :: c85 :: c86 :: c87 :: c88 :: c89 :: c90 :: c91 :: c92 :: c93 :: c94 :: []).toArray, []⟩ W0 := by
  conv => arg 2; arg 1; whnf
  have HOK := Lib.hid hok
  have HQ0 := Lib.hid (And.intro q0 (And.intro o2 o3))
  have HA := Lib.hid hA
  have HC := Lib.hid hC
  clear hok q0 o2 o3 hA hC
  go_loopw [8] (fun i wr => ∃ (j : Nat) (ts : List Nat) (s' : DSt), j ≤ m ∧ i = .int .i64 j ∧ ts.length = j ∧ dLoop' (drowB l 2 m) (m - j) j ts s' = dLoop' (drowB l 2 m) m 0 [] s ∧ DQ w D2 D9 a cap l cb wr s' [B3, B2] ∧ wr.heap[B2]? = some (.cells (arr (rz [])) 33 (0, 0)) ∧ wr.heap[B3]? = some (.cells (arr (A8 ++ (pad8 ts ++ C8))) 33 (0, 0))) (fun i _ => m - (intOf i).toNat)
  case atStart => exact ⟨0, [], s, by omega, rfl, rfl, rfl, HQ0.out.1, HQ0.out.2.1, HQ0.out.2.2⟩
  case round =>
    obtain ⟨W1, hW1⟩ : ∃ W1, W1 = wr := ⟨_, rfl⟩
    subst hW1
    obtain ⟨j, ts, s', hj, rfl, hxl, hl, qe, o2, o3⟩ := hrel
    by_cases hlt : j < m
    · obtain ⟨a1, a2, a3, a4⟩ := qe.at_
      have hj8 : j < 8 := by omega
      have HL := Lib.hid hl
      have HQ := Lib.hid qe
      have HO := Lib.hid (And.intro o2 o3)
      have HXL := Lib.hid hxl
      have b1 : (0 : Int) ≤ j := by omega
      have b2 : (j : Int) < 8 := by omega
      have b3 : (j : Int).toNat = j := by omega
      have d1 : (0 : Int) ≤ k := by omega
      have d2 : (k : Int) < 8 := by omega
      have d3 : (k : Int).toNat = k := by omega
      clear hl qe o2 o3 hxl
      go_wp2_with fail
      clear a1 a2
      refine wp_region_held_drew (S := fun _ => True) (by kernel_rfl) trivial (fun hHeld => ?_)
      refine wpAnyH_take (i := 0) (v := ?_) rfl (by kernel_rfl) (by kernel_rfl) (by kernel_rfl) (by first | exact fun _ _ _ h => h | exact fun _ _ _ h => HQP _ _ _ _ (by rfl) h) (Or.inl ⟨by rfl, ?_⟩) (by assumption) ?_
      rotate_left 1
      · (intro w hSw; (try dsimp only at hSw); go_simp; (try with_reducible rfl))
      (try simp only [List.getElem_toArray, List.getElem_cons_zero, List.getElem_cons_succ])
      (try simp only [Act.put, List.setIfInBounds_toArray, List.set_cons_zero, List.set_cons_succ])
      refine wpAnyH_take (i := 1) (v := ?_) rfl (by kernel_rfl) (by kernel_rfl) (by kernel_rfl) (by first | exact fun _ _ _ h => h | exact fun _ _ _ h => HQP _ _ _ _ (by rfl) h) (Or.inl ⟨by rfl, ?_⟩) (by assumption) ?_
      rotate_left 1
      · (intro w hSw; (try dsimp only at hSw); go_simp; (try with_reducible rfl))
      (try simp only [List.getElem_toArray, List.getElem_cons_zero, List.getElem_cons_succ])
      (try simp only [Act.put, List.setIfInBounds_toArray, List.set_cons_zero, List.set_cons_succ])
      refine wpAnyH_take (i := 2) (v := ?_) rfl (by kernel_rfl) (by kernel_rfl) (by kernel_rfl) (by first | exact fun _ _ _ h => h | exact fun _ _ _ h => HQP _ _ _ _ (by rfl) h) (Or.inl ⟨by rfl, ?_⟩) (by assumption) ?_
      rotate_left 1
      · (intro w hSw; (try dsimp only at hSw); go_simp; (try with_reducible rfl))
      (try simp only [List.getElem_toArray, List.getElem_cons_zero, List.getElem_cons_succ])
      (try simp only [Act.put, List.setIfInBounds_toArray, List.set_cons_zero, List.set_cons_succ])
      refine wpAnyH_take (i := 4) (v := ?_) rfl (by kernel_rfl) (by kernel_rfl) (by kernel_rfl) (by first | exact fun _ _ _ h => h | exact fun _ _ _ h => HQP _ _ _ _ (by rfl) h) (Or.inl ⟨by rfl, ?_⟩) (by assumption) ?_
      rotate_left 1
      · (intro w hSw; (try dsimp only at hSw); go_simp; (try with_reducible rfl))
      (try simp only [List.getElem_toArray, List.getElem_cons_zero, List.getElem_cons_succ])
      (try simp only [Act.put, List.setIfInBounds_toArray, List.set_cons_zero, List.set_cons_succ])
      refine wpAnyH_take (i := 5) (v := ?_) rfl (by kernel_rfl) (by kernel_rfl) (by kernel_rfl) (by first | exact fun _ _ _ h => h | exact fun _ _ _ h => HQP _ _ _ _ (by rfl) h) (Or.inl ⟨by rfl, ?_⟩) (by assumption) ?_
      rotate_left 1
      · (intro w hSw; (try dsimp only at hSw); go_simp; (try with_reducible rfl))
      (try simp only [List.getElem_toArray, List.getElem_cons_zero, List.getElem_cons_succ])
      (try simp only [Act.put, List.setIfInBounds_toArray, List.set_cons_zero, List.set_cons_succ])
      refine wpAnyH_ready (rs := [3]) (by kernel_rfl) (by simp) ?_
      refine AllReadyH.cons rfl (fun K hK => ?_) AllReadyH.nil
      go_simp
      go_at_call 17
      refine (HQ.out.grew (by exact by repeat (first | with_reducible exact HG.out | with_reducible exact Grew.refl _ | with_reducible assumption | with_reducible apply Grew.plus | with_reducible apply Grew.drewN | with_reducible apply Grew.drew | with_reducible apply Grew.alloc | with_reducible refine Grew.setCell ?_ (by simp [go_sem]; try omega) _))).call (fun cb' hd => r9_number hd 2 (by decide) (by decide)) (fun V1 v hg he q1 => ?_)
      obtain rfl := he
      have p2 := (HQ.out.grew (show Grew W1 W1.drew by exact by repeat (first | with_reducible exact HG.out | with_reducible exact Grew.refl _ | with_reducible assumption | with_reducible apply Grew.plus | with_reducible apply Grew.drewN | with_reducible apply Grew.drew | with_reducible apply Grew.alloc | with_reducible refine Grew.setCell ?_ (by simp [go_sem]; try omega) _))).kept (X := B2) (by simp) HO.out.1 hg
      have p3 := (HQ.out.grew (show Grew W1 W1.drew by exact by repeat (first | with_reducible exact HG.out | with_reducible exact Grew.refl _ | with_reducible assumption | with_reducible apply Grew.plus | with_reducible apply Grew.drewN | with_reducible apply Grew.drew | with_reducible apply Grew.alloc | with_reducible refine Grew.setCell ?_ (by simp [go_sem]; try omega) _))).kept (X := B3) (by simp) HO.out.2 hg
      generalize hs1 : dNum l 2 s' = r1 at *
      obtain ⟨v, s1⟩ := r1
      simp only at q1 ⊢
      refine hK.out _ _ trivial (fun _ => ?_)
      clear hK K
      (try simp only [Act.put, List.setIfInBounds_toArray, List.set_cons_zero, List.set_cons_succ])
      have hxl := HXL.out
      have hA := HA.out
      have hzl : (A8 ++ (pad8 ts ++ C8)).length = 144 := by
        have := HC.out
        simp only [List.length_append, pad8_len (show ([] : List Nat).length ≤ 8 by simp), pad8_len (show ts.length ≤ 8 by omega)] at this ⊢
        exact this
      obtain ⟨old, hold⟩ : ∃ old, (arr (A8 ++ (pad8 ts ++ C8)))[k * 18 + 9 + j]? = some old := ⟨_, arr_get _ (k * 18 + 9 + j) (by omega)⟩
      obtain ⟨c3, m3⟩ := World.own_cell p3 (k * 18 + 9 + j) old hold
      have lB3 : B3 < V1.heap.size := World.block_lt_of_cell? _ _ c3
      have n3 : (V1.setCell ⟨B3, k * 18 + 9 + j, none⟩ (.int .i64 v)).heap[B3]? = some (.cells (arr (A8 ++ (pad8 (ts ++ [v]) ++ C8))) 33 (0, 0)) := World.own_set2 p3 _ _ _ (by rw [arr_set, ← hA, ← hxl, mid_push A8 ts C8 (by omega) v])
      have n2 : (V1.setCell ⟨B3, k * 18 + 9 + j, none⟩ (.int .i64 v)).heap[B2]? = some (.cells (arr (rz [])) 33 (0, 0)) := by rw [World.block_setCell _ _ _ _ h23]; exact p2
      have HQ1 := Lib.hid (q1.set (X := B3) (by simp) (k * 18 + 9 + j) (.int .i64 v))
      have HN := Lib.hid (And.intro n2 n3)
      have HL2 : Hid (dLoop' (drowB l 2 m) (m - (j + 1)) (j + 1) (ts ++ [v]) (formS s1 s'.p (decide (j + 1 = m) && decide (v = 0))) = dLoop' (drowB l 2 m) m 0 [] s) := Lib.hid (by
        rw [← HL.out, show m - j = (m - (j + 1)) + 1 by omega, dLoop'_succ]
        unfold drowB DM.bind
        rw [dLast_is j m 2 s' s1 v hs1]
        rfl)
      have c3' : (V1.setCell ⟨B3, k * 18 + 9 + j, none⟩ (.int .i64 v)).cell? ⟨B3, k * 18 + 9 + j, none⟩ = some (.int .i64 v) := World.cell?_setCell_same _ _ _ c3
      have hx1 : ((v : Int) == 0) = decide (v = 0) := by rw [Bool.eq_iff_iff]; simp
      clear hg q1 p2 p3 n2 n3 HQ HO HL hxl hA hs1 hold hzl
      refine wpAnyH_ready (rs := [6]) (by kernel_rfl) (by simp) ?_
      refine AllReadyH.cons rfl (fun K hK => ?_) AllReadyH.nil
      go_simp
      refine hK.out _ _ trivial (fun _ => ?_)
      clear hK K
      (try simp only [Act.put, List.setIfInBounds_toArray, List.set_cons_zero, List.set_cons_succ])
      refine wpAnyH_ready (rs := [7]) (by kernel_rfl) (by simp) ?_
      refine AllReadyH.cons rfl (fun K hK => ?_) AllReadyH.nil
      go_simp
      refine hK.out _ _ trivial (fun _ => ?_)
      clear hK K
      (try simp only [Act.put, List.setIfInBounds_toArray, List.set_cons_zero, List.set_cons_succ])
      refine wpAnyH_done (by kernel_rfl) ?_ _
      clear c3 m3
      generalize V1.setCell ⟨B3, k * 18 + 9 + j, none⟩ (.int .i64 v) = V2 at *
      have lB3' : B3 < V2.heap.size := World.block_lt_of_cell? _ _ c3'
      by_cases hla : j + 1 = m
      · have hla1 : ((j : Int) == (m : Int) - 1) = true := by simp; omega
        have HL3 := HL2.out
        rw [decide_eq_true hla, Bool.true_and] at HL3
        have HL3 := Lib.hid HL3
        clear hla
        go_wp2_with fail
        refine HQ1.out.form s'.p (decide (v = 0)) (fun V3 hg2 q2 => ?_)
        have p2' := HQ1.out.kept (by simp) HN.out.1 hg2
        have p3' := HQ1.out.kept (by simp) HN.out.2 hg2
        have HY := Lib.hid (And.intro q2 (And.intro p2' p3'))
        clear hg2 q2 p2' p3' c3' hx1
        go_wp2_with fail
        exact ⟨⟨j + 1, ts ++ [v], formS s1 s'.p (decide (v = 0)), by omega, rfl, by simp [HXL.out], HL3.out, HY.out.1, HY.out.2.1, HY.out.2.2⟩, by show m - ((j : Int) + 1).toNat < m - (j : Int).toNat; omega⟩
      · have hla1 : ((j : Int) == (m : Int) - 1) = false := by simp; omega
        have HL3 := HL2.out
        rw [decide_eq_false hla, Bool.false_and] at HL3
        have HL3 := Lib.hid HL3
        clear hla
        go_wp2_with fail
        refine HQ1.out.form s'.p false (fun V3 hg2 q2 => ?_)
        have p2' := HQ1.out.kept (by simp) HN.out.1 hg2
        have p3' := HQ1.out.kept (by simp) HN.out.2 hg2
        have HY := Lib.hid (And.intro q2 (And.intro p2' p3'))
        clear hg2 q2 p2' p3' c3' hx1
        go_wp2_with fail
        exact ⟨⟨j + 1, ts ++ [v], formS s1 s'.p false, by omega, rfl, by simp [HXL.out], HL3.out, HY.out.1, HY.out.2.1, HY.out.2.2⟩, by show m - ((j : Int) + 1).toNat < m - (j : Int).toNat; omega⟩
    · have hkn : j = m := by omega
      subst hkn
      rw [Nat.sub_self] at hl
      have hl : dLoop' (drowB l 2 j) j 0 [] s = (ts, s') := hl.symm
      have HXL := Lib.hid hxl
      have HY := Lib.hid (And.intro hl (And.intro qe (And.intro o2 o3)))
      clear hxl hl qe o2 o3
      go_wp2_with fail
      exact HOK.out ts s' W1 _ _ _ _ _ _ _ _ _ _ _ _ _ _ _ _ _ _ _ _ _ _ _ _ _ _ _ _ _ _ _ _ _ _ _ _ _ HY.out.1 (by have := HXL.out; omega) HY.out.2.1 HY.out.2.2.1 HY.out.2.2.2
def encRounds (xs : List PRound) (_ : World) (v : Value) : Prop := v = .agg (arr (rz xs)) ∧ (rz xs).length = 144
theorem dRound_is0 {l : List UInt8} {i n : Nat} {s s1 : DSt} (h : dLast l i n most s = (0, s1)) : dRound l i n s = (zRound, s1) := by
  unfold dRound
  rw [dbind_is h, if_pos rfl]; rfl
theorem dRound_is {l : List UInt8} {i n : Nat} {s s1 s3 s5 s6 : DSt} {v d : Nat} {c t : List Nat} (h : dLast l i n most s = (v, s1)) (hv : ¬ v = 0) (h3 : dRow l most s1 = (c, s3)) (h5 : dRow l 2 s3 = (t, s5)) (h6 : dNum l 2 s5 = (d, s6)) : dRound l i n s = (⟨v, c, t, d⟩, s6) := by
  unfold dRound
  rw [dbind_is h, if_neg hv]
  exact (dbind_is h3).trans ((dbind_is h5).trans (dbind_is h6))
theorem dRow_is {l : List UInt8} {m : Int} {s s1 s2 : DSt} {n : Nat} {t : List Nat} (h1 : dNum l 8 s = (n, s1)) (h2 : dLoop' (drowB l m n) n 0 [] s1 = (t, s2)) : dRow l m s = (t, s2) := by
  rw [dRow_eq]
  exact (dbind_is h1).trans h2
set_option maxRecDepth 1000000 in
set_option maxHeartbeats 8000000 in
theorem r9_rounds (h : DS w D2 D9 a cap l cb s) : Calls Tryz.prog 19 #[pt D9] w (DPost w D2 D9 a cap l cb encRounds (dRounds l s)) := by
  have Q0 := DQ.start h
  have Q1 := Q0.own ((Grew.refl w).alloc (.cells (arr (rz [])) 33)) (Nat.le_refl _) (by simp [go_sem])
  have Q2 := Q1.own ((Grew.refl _).alloc (.cells (arr (rz [])) 33)) (Nat.le_refl _) (by simp [go_sem])
  rw [alloc_size1] at Q2
  have o2 : ((w.alloc (.cells (arr (rz [])) 33)).alloc (.cells (arr (rz [])) 33)).heap[w.heap.size]? = some (.cells (arr (rz [])) 33 (0, 0)) := Grew.heap ((Grew.refl _).alloc _) (heap_alloc_new w _)
  have o3 : ((w.alloc (.cells (arr (rz [])) 33)).alloc (.cells (arr (rz [])) 33)).heap[w.heap.size + 1]? = some (.cells (arr (rz [])) 33 (0, 0)) := heap_alloc_at _ _ _ (by simp [go_sem])
  have HQ2 := Lib.hid Q2
  have HO := Lib.hid (And.intro o2 o3)
  clear h Q0 Q1 Q2 o2 o3
  go_enter Tryz.func19, Tryz.ntmps19
  go_wp2_with fail
  rw [zero_rounds] at *
  generalize ((w.alloc (.cells (arr (rz [])) 33)).alloc (.cells (arr (rz [])) 33)) = W2 at *
  refine HQ2.out.call (fun cb' hd => r9_number hd 8 (by decide) (by decide)) (fun V0 v hg he q0 => ?_)
  obtain rfl := he
  have p2 := HQ2.out.kept (by simp) HO.out.1 hg
  have p3 := HQ2.out.kept (by simp) HO.out.2 hg
  have hn8 := dNum_le l (m := 8) (by decide) s
  have HR : Hid (dRounds l s = _) := Lib.hid (congrFun (dRounds_eq l) s)
  generalize hs0 : dNum l 8 s = r0 at *
  obtain ⟨n, s0⟩ := r0
  have HR2 : Hid (dRounds l s = dLoop' (droundsB l n) n 0 [] s0) := Lib.hid (HR.out.trans (by unfold DM.bind; rw [hs0]))
  simp only at q0 hn8 ⊢
  have hn8' : n ≤ 8 := by omega
  have HX := Lib.hid (And.intro q0 (And.intro p2 p3))
  clear HR hs0 hg q0 p2 p3 HQ2 HO hn8
  go_wp2_with fail
  generalize hB2 : w.heap.size = B2 at *
  generalize hB3 : B2 + 1 = B3 at *
  have HB := Lib.hid (And.intro hB2 hB3)
  have h23 : B2 ≠ B3 := by omega
  clear hB2 hB3
  go_loopw [5] (fun i wr => ∃ (k : Nat) (xs : List PRound) (s' : DSt), k ≤ n ∧ i = .int .i64 k ∧ xs.length = k ∧ (∀ x ∈ xs, fine x) ∧ dLoop' (droundsB l n) (n - k) k xs s' = dLoop' (droundsB l n) n 0 [] s0 ∧ DQ w D2 D9 a cap l cb wr s' [B3, B2] ∧ wr.heap[B2]? = some (.cells (arr (rz [])) 33 (0, 0)) ∧ wr.heap[B3]? = some (.cells (arr (rz xs)) 33 (0, 0))) (fun i _ => n - (intOf i).toNat)
  case atStart => exact ⟨0, [], s0, by omega, rfl, rfl, by simp, rfl, HX.out.1, HX.out.2.1, HX.out.2.2⟩
  case round =>
    obtain ⟨W1, hW1⟩ : ∃ W1, W1 = wr := ⟨_, rfl⟩
    subst hW1
    obtain ⟨k, xs, s', hk, rfl, hxl, hfine, hl, qe, o2, o3⟩ := hrel
    by_cases hlt : k < n
    · obtain ⟨a1, a2, a3, a4⟩ := qe.at_
      have hk8 : k < 8 := by omega
      have HL := Lib.hid hl
      have HQ := Lib.hid qe
      have HO := Lib.hid (And.intro o2 o3)
      have HXL := Lib.hid hxl
      have HFN := Lib.hid hfine
      have b1 : (0 : Int) ≤ k := by omega
      have b2 : (k : Int) < 8 := by omega
      have b3 : (k : Int).toNat = k := by omega
      have HGO : Hid (∀ x s2, dRound l k n s' = (x, s2) → dLoop' (droundsB l n) (n - (k + 1)) (k + 1) (xs ++ [x]) s2 = dLoop' (droundsB l n) n 0 [] s0) := Lib.hid fun x s2 hx => by
        rw [← HL.out, show n - k = (n - (k + 1)) + 1 by omega, dLoop'_succ]
        unfold droundsB DM.bind DM.pure
        rw [hx]
      clear hl qe o2 o3 hxl hfine
      go_wp2_with fail
      clear a1 a2 a3 a4
      refine HQ.out.call (fun cb' hd => r9_number hd 9223372036854775807 (by decide) (by decide)) (fun V1 v hg he q1 => ?_)
      obtain rfl := he
      have p2 := HQ.out.kept (by simp) HO.out.1 hg
      have p3 := HQ.out.kept (by simp) HO.out.2 hg
      generalize hs1 : dNum l 9223372036854775807 s' = r1 at *
      obtain ⟨v, s1⟩ := r1
      simp only at q1 ⊢
      have hxl := HXL.out
      have hzl := rz_len xs HFN.out (by omega)
      obtain ⟨old, hold⟩ : ∃ old, (arr (rz xs))[k * 18]? = some old := ⟨_, arr_get _ (k * 18) (by omega)⟩
      obtain ⟨c3, m3⟩ := World.own_cell p3 (k * 18) old hold
      have lB3 : B3 < V1.heap.size := World.block_lt_of_cell? _ _ c3
      have n3 : (V1.setCell ⟨B3, k * 18, none⟩ (.int .i64 v)).heap[B3]? = some (.cells (arr (pre18 xs ++ (v :: 0 :: 0 :: 0 :: 0 :: 0 :: 0 :: 0 :: 0 :: 0 :: 0 :: 0 :: 0 :: 0 :: 0 :: 0 :: 0 :: 0 :: post18 xs.length))) 33 (0, 0)) := World.own_set2 p3 _ _ _ (by rw [arr_set, ← hxl, rz_num xs HFN.out (by omega)])
      have n2 : (V1.setCell ⟨B3, k * 18, none⟩ (.int .i64 v)).heap[B2]? = some (.cells (arr (rz [])) 33 (0, 0)) := by rw [World.block_setCell _ _ _ _ h23]; exact p2
      have HQ1 := Lib.hid (q1.set (X := B3) (by simp) (k * 18) (.int .i64 v))
      have HN := Lib.hid (And.intro n2 n3)
      have HS1 := Lib.hid (dLast_is k n most s' s1 v hs1)
      have c3' : (V1.setCell ⟨B3, k * 18, none⟩ (.int .i64 v)).cell? ⟨B3, k * 18, none⟩ = some (.int .i64 v) := World.cell?_setCell_same _ _ _ c3
      have hx1 : ((v : Int) == 0) = decide (v = 0) := by rw [Bool.eq_iff_iff]; simp
      have hn1 : (1 : Int) ≤ n := by omega
      clear hg q1 p2 p3 n2 n3 HQ HO HL hxl hs1 hold hzl
      by_cases hla : k + 1 = n
      case' pos =>
        have hla1 : ((k : Int) == (n : Int) - 1) = true := by simp; omega
        have HL1 := HS1.out
        rw [decide_eq_true hla, Bool.true_and] at HL1
        obtain ⟨fc, hfc⟩ : ∃ fc, fc = decide (v = 0) := ⟨_, rfl⟩
        rw [← hfc] at HL1 hx1
        have HL1 := Lib.hid HL1
        clear hla HS1 hfc
        go_wp2_with fail
        refine HQ1.out.form s'.p fc (fun V2 hg2 q2 => ?_)
        have p2 := HQ1.out.kept (by simp) HN.out.1 hg2
        have p3 := HQ1.out.kept (by simp) HN.out.2 hg2
        have HDL := Lib.hid HL1.out
        clear HL1 hx1
        generalize formS s1 s'.p fc = s2 at *
      case' neg =>
        have hla1 : ((k : Int) == (n : Int) - 1) = false := by simp; omega
        have HL1 := HS1.out
        rw [decide_eq_false hla, Bool.false_and] at HL1
        have HL1 := Lib.hid HL1
        clear hla HS1
        go_wp2_with fail
        refine HQ1.out.form s'.p false (fun V2 hg2 q2 => ?_)
        have p2 := HQ1.out.kept (by simp) HN.out.1 hg2
        have p3 := HQ1.out.kept (by simp) HN.out.2 hg2
        have HDL := Lib.hid HL1.out
        clear HL1 hx1
        generalize formS s1 s'.p false = s2 at *
      all_goals
        have k3 := (World.own_cell p3 (k * 18) (.int .i64 v) (by rw [← HXL.out]; exact get_num xs HFN.out v _)).1
        have HQ2 := Lib.hid q2
        have HN2 := Lib.hid (And.intro p2 p3)
        have lB3' : B3 < V2.heap.size := World.block_lt_of_cell? _ _ k3
        clear hg2 q2 p2 p3 c3 m3 c3' lB3 hla1
        by_cases hv : v = 0
        · have hv1 : ((v : Int) == 0) = true := by simp [hv]
          have HV := Lib.hid hv
          clear hv
          go_wp2_with fail
          have HXL2 := HXL.out
          exact ⟨⟨k + 1, xs ++ [zRound], s2, by omega, rfl, by simp [HXL2], fun x hx => by
              rcases List.mem_append.1 hx with h | h
              · exact HFN.out x h
              · obtain rfl := List.mem_singleton.1 h; exact ⟨by simp [zRound], by simp [zRound]⟩, HGO.out _ _ (dRound_is0 (by have := HDL.out; rw [HV.out] at this; exact this)), HQ2.out, HN2.out.1, by rw [rz_none]; have h1 := HN2.out.2; rw [HV.out] at h1; exact h1⟩, by show n - ((k : Int) + 1).toNat < n - (k : Int).toNat; omega⟩
        · have hv1 : ((v : Int) == 0) = false := by simpa using hv
          have HV := Lib.hid hv
          clear hv
          go_wp2_with fail
          clear k3
          refine HQ2.out.call (fun cb' hd => r9_clock hd) (fun V3 cv hg he q3 => ?_)
          obtain ⟨rfl, hc8⟩ := he
          have p2 := HQ2.out.kept (by simp) HN2.out.1 hg
          have p3 := HQ2.out.kept (by simp) HN2.out.2 hg
          generalize hc : dRow l most s2 = r3 at *
          obtain ⟨c, s3⟩ := r3
          simp only at q3 hc8 ⊢
          have hpl : (pad8 c).length = 8 := pad8_len hc8
          have hk144 : k * 18 + 9 ≤ 144 := by omega
          have HT := Lib.hid (there_mid p3 (k * 18 + 1) 8 (by rw [arr_size, len_1 xs HFN.out (by have := HXL.out; omega) v]; omega))
          have hx2 : putL (pre18 xs ++ (v :: 0 :: 0 :: 0 :: 0 :: 0 :: 0 :: 0 :: 0 :: 0 :: 0 :: 0 :: 0 :: 0 :: 0 :: 0 :: 0 :: 0 :: post18 xs.length)) (k * 18 + 1) (pad8 c) = (pre18 xs ++ (v :: (pad8 c ++ (0 :: 0 :: 0 :: 0 :: 0 :: 0 :: 0 :: 0 :: 0 :: post18 xs.length)))) := by rw [← HXL.out]; exact (rz_cut xs HFN.out v (pad8 c) (by omega)).trans (by rw [pad8_pad8 hc8])
          have hg2 : GrewX [B3] V3 (V3.setCells B3 (k * 18 + 1) (arr (pad8 c)).toList) := setCells_gx _ _ _
          have n3 : (V3.setCells B3 (k * 18 + 1) (arr (pad8 c)).toList).heap[B3]? = some (.cells (arr (pre18 xs ++ (v :: (pad8 c ++ (0 :: 0 :: 0 :: 0 :: 0 :: 0 :: 0 :: 0 :: 0 :: post18 xs.length))))) 33 (0, 0)) := by
            have := setCells_own (arr (pad8 c)).toList V3 (k * 18 + 1) _ p3
            rwa [putA_arr, hx2] at this
          have n2 : (V3.setCells B3 (k * 18 + 1) (arr (pad8 c)).toList).heap[B2]? = some (.cells (arr (rz [])) 33 (0, 0)) := by
            exact hg2.heap p2 (by simpa using h23)
          have HQ3 := Lib.hid (q3.writes hg2 (by simp))
          have HN3 := Lib.hid (And.intro n2 n3)
          have HC := Lib.hid (And.intro hc hc8)
          have HPL := Lib.hid hpl
          clear hg q3 p2 p3 n2 n3 hx2 hg2 hc hc8 hpl HQ2 HN2
          go_wp2_with (refine wpList_store_mid (by rfl) 29 (.tmp 51) (.tmp 49) (by rfl) B3 (k * 18 + 1) (arr (pad8 c)) (by rfl) (by rfl) (by rw [arr_size, HPL.out]; exact HT.out) (by rw [arr_size, HPL.out]; exact info_clock) (arr_ones _) ?_)
          generalize (V3.setCells B3 (k * 18 + 1) (arr (pad8 c)).toList) = V4 at *
          refine HQ3.out.call (fun cb' hd => r9_number hd 8 (by decide) (by decide)) (fun V5 mv hg he q5 => ?_)
          obtain rfl := he
          have p2 := HQ3.out.kept (by simp) HN3.out.1 hg
          have p3 := HQ3.out.kept (by simp) HN3.out.2 hg
          have hm8 := dNum_le l (m := 8) (by decide) s3
          generalize hm : dNum l 8 s3 = r5 at *
          obtain ⟨m, s5⟩ := r5
          simp only at q5 hm8 ⊢
          have hm8' : m ≤ 8 := by omega
          have HM := Lib.hid hm
          have HQ5 := Lib.hid q5
          have HN5 := Lib.hid (And.intro p2 p3)
          clear hm hm8 q5 p2 p3 hg HQ3 HN3 HT
          go_wp2_with fail
          have hA8 : (pre18 xs ++ (v :: pad8 c)).length = k * 18 + 9 := by
            have := pre18_len xs HFN.out; have := HXL.out; have := HPL.out
            simp only [List.length_append, List.length_cons]; omega
          have hE : (pre18 xs ++ (v :: pad8 c)) ++ (pad8 [] ++ (0 :: post18 xs.length)) = (pre18 xs ++ (v :: (pad8 c ++ (0 :: 0 :: 0 :: 0 :: 0 :: 0 :: 0 :: 0 :: 0 :: post18 xs.length)))) := by rw [List.append_assoc]; rfl
          have hC8 : ((pre18 xs ++ (v :: pad8 c)) ++ (pad8 [] ++ (0 :: post18 xs.length))).length = 144 := by
            rw [hE]; exact len_2 xs HFN.out (by have := HXL.out; omega) v c HC.out.2
          refine votes_loop _ _ _ _ _ _ _ _ _ _ _ _ _ _ _ _ _ _ _ _ _ _ _ _ _ _ _ _ _ _ _ _ _ _ _ _ _ _ _ _ _ _ _ _ _ _ _ _ _ _ _ _ _ _ _ _ _ _ _ _ _ _ _ _ _ _ _ _ _ _ _ _ _ _ _ _ _ _ _ _ _ _ _ _ _ _ _ _ _ (pre18 xs ++ (v :: pad8 c)) (0 :: post18 xs.length) hA8 hC8 hk8 hm8' h23 HQ5.out HN5.out.1 (by rw [hE]; exact HN5.out.2) ?hqp (fun ts s6 V6 u6 u8 u54 u55 u56 u57 u58 u59 u60 u61 u62 u63 u64 u65 u66 u67 u68 u69 u70 u71 u72 u73 u74 u75 u76 u77 u78 u79 u80 u81 u82 u83 u84 u85 u86 u87 u88 h6 hts q6 o2 o3 => ?_)
          case hqp => exact fun ch a1 a2 w1 hd h => ⟨hd.symm.trans h.1, h.2⟩
          have HQ6 := Lib.hid q6
          have HN6 := Lib.hid (And.intro o2 o3)
          have HT6 := Lib.hid (And.intro h6 hts)
          clear hA8 hC8 hE q6 o2 o3 h6 hts HQ5 HN5
          go_wp2_with fail
          refine HQ6.out.call (fun cb' hd => r9_number hd 2 (by decide) (by decide)) (fun V7 dv hg he q7 => ?_)
          obtain rfl := he
          have p2 := HQ6.out.kept (by simp) HN6.out.1 hg
          have p3 := HQ6.out.kept (by simp) HN6.out.2 hg
          generalize hd2 : dNum l 2 s6 = r7 at *
          obtain ⟨d, s7⟩ := r7
          simp only at q7 ⊢
          have hxe : (pre18 xs ++ (v :: pad8 c)) ++ (pad8 ts ++ (0 :: post18 xs.length)) = pre18 xs ++ (v :: (pad8 c ++ (pad8 ts ++ (0 :: post18 xs.length)))) := by rw [List.append_assoc]; rfl
          rw [hxe] at p3
          have hdl : (pre18 xs ++ (v :: (pad8 c ++ (pad8 ts ++ (0 :: post18 xs.length))))).length = 144 := by
            have h1 := pre18_len xs HFN.out; have h2 := HXL.out; have h3 := HPL.out; have h4 : (pad8 ts).length = 8 := pad8_len HT6.out.2
            simp only [List.length_append, List.length_cons, post18, List.length_replicate]; omega
          obtain ⟨old, hold⟩ : ∃ old, (arr (pre18 xs ++ (v :: (pad8 c ++ (pad8 ts ++ (0 :: post18 xs.length))))))[k * 18 + 17]? = some old := ⟨_, arr_get _ (k * 18 + 17) (by omega)⟩
          obtain ⟨c9, m9⟩ := World.own_cell p3 (k * 18 + 17) old hold
          have l9 : B3 < V7.heap.size := World.block_lt_of_cell? _ _ c9
          have n3 : (V7.setCell ⟨B3, k * 18 + 17, none⟩ (.int .i64 d)).heap[B3]? = some (.cells (arr (rz (xs ++ [⟨v, c, ts, d⟩]))) 33 (0, 0)) := World.own_set2 p3 _ _ _ (by rw [arr_set]; congr 1; rw [← HXL.out]; exact rz_dec xs HFN.out v c ts HC.out.2 HT6.out.2 d)
          have n2 : (V7.setCell ⟨B3, k * 18 + 17, none⟩ (.int .i64 d)).heap[B2]? = some (.cells (arr (rz [])) 33 (0, 0)) := by rw [World.block_setCell _ _ _ _ h23]; exact p2
          have HQ7 := Lib.hid (q7.set (X := B3) (by simp) (k * 18 + 17) (.int .i64 d))
          have HN7 := Lib.hid (And.intro n2 n3)
          have HD := Lib.hid hd2
          clear hg q7 p2 p3 n2 n3 hd2 hdl hxe hold HQ6 HN6
          go_wp2_with fail
          have HXL2 := HXL.out
          exact ⟨⟨k + 1, xs ++ [⟨v, c, ts, d⟩], s7, by omega, rfl, by simp [HXL2], fun x hx => by
              rcases List.mem_append.1 hx with h | h
              · exact HFN.out x h
              · obtain rfl := List.mem_singleton.1 h; exact ⟨HC.out.2, HT6.out.2⟩, HGO.out _ _ (dRound_is HDL.out HV.out HC.out.1 (dRow_is HM.out HT6.out.1) HD.out), HQ7.out, HN7.out.1, HN7.out.2⟩, by show n - ((k : Int) + 1).toNat < n - (k : Int).toNat; omega⟩
    · have hkn : k = n := by omega
      subst hkn
      rw [Nat.sub_self] at hl
      have hl : dLoop' (droundsB l k) k 0 [] s0 = (xs, s') := hl.symm
      have HRA := Lib.hid (range_all o3)
      have HTH := Lib.hid (there_all o2)
      have hpl : (rz xs).length = 144 := rz_len xs hfine (by omega)
      have hg2 : GrewX [B2] W1 (W1.setCells B2 0 (arr (rz xs)).toList) := setCells_gx _ _ _
      have h2 : (W1.setCells B2 0 (arr (rz xs)).toList).heap[B2]? = some (.cells (arr (rz xs)) 33 (0, 0)) := by
        have := setCells_own (arr (rz xs)).toList W1 0 _ o2
        rwa [putA_all _ _ (by rw [arr_size, arr_size, hpl]; rfl)] at this
      have hl2 := run_loadVar_mid (P := Tryz.prog) _ B2 0 33 (arr (rz xs)).toList _ (range_all h2) Tryz.underlying33 rfl (by rw [Array.length_toList, arr_size, hpl]; exact info_rounds)
      have Q3 := qe.writes hg2 (by simp)
      have HQ := Lib.hid Q3
      have HRR : Hid (dRounds l s = (xs, s')) := Lib.hid (HR2.out.trans hl)
      have HPL := Lib.hid hpl
      clear hl o2 o3 qe Q3 hg2 h2 hpl hxl hfine
      go_wp2_with (first
        | (refine wpList_load_mid (by rfl) 33 (.tmp 3) (by rfl) B3 0 (by rfl) (arr (rz xs)).toList _ HRA.out Tryz.underlying33 rfl (by rw [Array.length_toList, arr_size, HPL.out]; exact info_rounds) ?_)
        | (refine wpList_store_mid (by rfl) 33 (.tmp 2) (.tmp 94) (by rfl) B2 0 (arr (rz xs)) (by rfl) (by rfl) (by rw [arr_size, HPL.out]; exact HTH.out) (by rw [arr_size, HPL.out]; exact info_rounds) (arr_ones _) ?_))
      exact bodyPost_ret (v := .agg (arr (rz xs))) (by simp [results, Tryz.results19, Sem.run_bind, Sem.run_pure, asAddr, Act.put, hl2]) rfl (HQ.out.post (x := xs) ⟨rfl, HPL.out⟩ HRR.out)
end
end Go.Proofs.YtnhmekdnfinmiaaGreatDoor
/- Walks: the document's reader of image: text. -/
namespace Go.Proofs.YtnhmekdnfinmiaaGreatDoor
open Go.RowKit Go.Par
set_option linter.unusedSimpArgs false
set_option linter.unusedVariables false
section
variable {w w' : World} {D2 D9 : Nat} {a : Option Addr} {cap : Nat} {l : List UInt8} {cb : List Nat} {s : DSt}
def encBytes (base : Nat) (bs : List UInt8) (W : World) (v : Value) : Prop := ∃ ar cp, v = .slice ar bs.length cp ∧ bs.length ≤ cp ∧ cp ≤ 9223372036854775807 ∧ CellsIn W ar (bv bs) ∧ ∀ q, ar = some q → base ≤ q.block ∧ q.block < W.heap.size
set_option maxRecDepth 100000 in
set_option maxHeartbeats 1000000 in
theorem r17_text (h : DS w D2 D9 a cap l cb s) : Calls Tryz.prog 21 #[pt D9] w (DPost w D2 D9 a cap l cb (encBytes w.heap.size) (dText l s)) := by
  have BD := Lib.hid (r9_bad h)
  have H := Lib.hid h
  obtain ⟨l2, l9, n29, b, q, h9, x0, x1, x2, x3, x4, h2, -⟩ := h.c9
  obtain ⟨y0, -⟩ := World.own_cell h9 0 _ rfl
  obtain ⟨p, bad⟩ := s
  cases bad with
  | some r =>
    clear h h9 y0
    go_enter Tryz.func21, Tryz.ntmps21
    go_wp2_with (go_at_call 15; refine BD.out.mono ?_; rintro e w' ⟨rfl, rfl⟩; simp only [Option.isSome])
    go_ret
    exact ⟨GrewX.refl _ _, ⟨_, rfl, none, 0, rfl, Nat.le_refl _, by decide, fun hx => absurd rfl hx, by simp⟩, cb, fun k hk => .inl hk, H.out⟩
  | none =>
    have hd0 : DG w D2 D9 a cap l p := h.1
    have RN := Lib.hid (r2_text hd0)
    obtain ⟨z1, -⟩ := World.own_cell hd0.c2 1 _ rfl
    clear h hd0 h2
    have hdb : dText l ⟨p, none⟩ = match wText l 2147483647 p with
      | .ok (x, q) => (x, ⟨q, none⟩)
      | .error r => ([], ⟨p, some r⟩) := by
      unfold dText dW
      cases wText l 2147483647 p with
      | ok x => rfl
      | error r => rfl
    rw [hdb]
    clear hdb
    cases hw : wText l 2147483647 p with
    | error r =>
      rw [hw] at RN
      clear hw
      simp only
      have hcv : ∀ W, (convert 9 22 (.string ⟨([] : List UInt8).toArray⟩)).run Tryz.prog W = .ok (.slice (some ⟨W.heap.size, 0, none⟩) ([] : List UInt8).length (grownCap W ([] : List UInt8).length 0 5)) (W.drew.alloc (.cells (bytesRow ⟨([] : List UInt8).toArray⟩ (grownCap W ([] : List UInt8).length 0 5)) 5 ((bytesRow ⟨([] : List UInt8).toArray⟩ (grownCap W ([] : List UInt8).length 0 5)).size, (bytesRow ⟨([] : List UInt8).toArray⟩ (grownCap W ([] : List UInt8).length 0 5)).size + 1))) := fun W => by
        have := run_bytes_of_string W 9 22 5 ⟨([] : List UInt8).toArray⟩ Tryz.underlying9 Tryz.underlying22 Tryz.underlying5
        exact this
      go_enter Tryz.func21, Tryz.ntmps21
      go_wp2_with (first
        | (go_at_call 15; refine BD.out.mono ?_; rintro e w' ⟨rfl, rfl⟩; simp only [Option.isSome])
        | (go_at_call 46; refine RN.out.mono ?_; rintro e w1 ⟨hg1, v, cb1, rfl, ⟨k, a1, n1, c1, a2, n2, c2, rfl⟩, hcb, hdb⟩; unfold noV; have HX := Lib.hid (And.intro hg1 (And.intro hcb hdb)); clear hg1 hcb hdb))
      have hle7 : ∀ W, grownCap W ([] : List UInt8).length 0 5 ≤ 9223372036854775807 := fun W => Nat.le_trans (grownCap_le_maxLen W ([] : List UInt8).length 0 5 (by simp only [List.length_nil]; unfold maxLen; omega)) (by unfold maxLen; omega)
      have hds : DS w1 D2 D9 a cap l cb1 ⟨p, some r⟩ := ⟨HX.out.2.2, n29, fun q hq => by have := H.out.1.al q hq; have := HX.out.1.size; omega⟩
      go_ret
      exact ⟨(HX.out.1.mono (by simp)).trans (GrewX.of_grew (by exact by repeat (first | with_reducible exact HG.out | with_reducible exact Grew.refl _ | with_reducible assumption | with_reducible apply Grew.plus | with_reducible apply Grew.drewN | with_reducible apply Grew.drew | with_reducible apply Grew.alloc | with_reducible refine Grew.setCell ?_ (by simp [go_sem]; try omega) _))), ⟨_, rfl, _, _, rfl, Nat.zero_le _, hle7 _, fun hx => absurd rfl hx, fun q hq => by cases hq; exact ⟨Nat.le_succ_of_le HX.out.1.size, by rw [heap_drew0, alloc_size1, alloc_size1]; exact Nat.lt_succ_self _⟩⟩, cb1, fun k hk => .inr (HX.out.2.1 k hk), hds.grew (by exact by repeat (first | with_reducible exact HG.out | with_reducible exact Grew.refl _ | with_reducible assumption | with_reducible apply Grew.plus | with_reducible apply Grew.drewN | with_reducible apply Grew.drew | with_reducible apply Grew.alloc | with_reducible refine Grew.setCell ?_ (by simp [go_sem]; try omega) _))⟩
    | ok x =>
      obtain ⟨bs, q⟩ := x
      rw [hw] at RN
      have hbl : bs.length ≤ 4000 := by have := wText_len hw; have := H.out.1.len; omega
      clear hw
      simp only
      have hcv : ∀ W, (convert 9 22 (.string ⟨bs.toArray⟩)).run Tryz.prog W = .ok (.slice (some ⟨W.heap.size, 0, none⟩) bs.length (grownCap W bs.length 0 5)) (W.drew.alloc (.cells (bytesRow ⟨bs.toArray⟩ (grownCap W bs.length 0 5)) 5 ((bytesRow ⟨bs.toArray⟩ (grownCap W bs.length 0 5)).size, (bytesRow ⟨bs.toArray⟩ (grownCap W bs.length 0 5)).size + 1))) := fun W => by
        have := run_bytes_of_string W 9 22 5 ⟨bs.toArray⟩ Tryz.underlying9 Tryz.underlying22 Tryz.underlying5
        exact this
      go_enter Tryz.func21, Tryz.ntmps21
      go_wp2_with (first
        | (go_at_call 15; refine BD.out.mono ?_; rintro e w' ⟨rfl, rfl⟩; simp only [Option.isSome])
        | (go_at_call 46; refine RN.out.mono ?_; rintro e w1 ⟨hg1, v, rfl, ⟨k, a1, n1, c1, a2, n2, c2, rfl⟩, hdb⟩; unfold noV encT; have HX := Lib.hid (And.intro hg1 hdb); clear hg1 hdb))
      have hle7 : ∀ W, grownCap W bs.length 0 5 ≤ 9223372036854775807 := fun W => Nat.le_trans (grownCap_le_maxLen W bs.length 0 5 (by have := hbl; unfold maxLen; omega)) (by unfold maxLen; omega)
      have hds : DS w1 D2 D9 a cap l cb ⟨q, none⟩ := ⟨HX.out.2, fun k hk => by have := H.out.2 k hk; have := HX.out.1.size; omega⟩
      go_ret
      exact ⟨(HX.out.1.mono (by simp)).trans (GrewX.of_grew (by exact by repeat (first | with_reducible exact HG.out | with_reducible exact Grew.refl _ | with_reducible assumption | with_reducible apply Grew.plus | with_reducible apply Grew.drewN | with_reducible apply Grew.drew | with_reducible apply Grew.alloc | with_reducible refine Grew.setCell ?_ (by simp [go_sem]; try omega) _))), ⟨_, rfl, _, _, rfl, grownCap_ge _ _ _ _, hle7 _, bytes_in (ks := []) (g := w1.heap.size + 1) (heap_alloc_at _ _ _ (alloc_size1 _ _).symm) (GrewX.of_grew (by exact by repeat (first | with_reducible exact HG.out | with_reducible exact Grew.refl _ | with_reducible assumption | with_reducible apply Grew.plus | with_reducible apply Grew.drewN | with_reducible apply Grew.drew | with_reducible apply Grew.alloc | with_reducible refine Grew.setCell ?_ (by simp [go_sem]; try omega) _))) (by simp), fun q hq => by cases hq; exact ⟨Nat.le_succ_of_le HX.out.1.size, by rw [heap_drew0, alloc_size1, alloc_size1]; exact Nat.lt_succ_self _⟩⟩, cb, fun k hk => .inl hk, hds.grew (by exact by repeat (first | with_reducible exact HG.out | with_reducible exact Grew.refl _ | with_reducible assumption | with_reducible apply Grew.plus | with_reducible apply Grew.drewN | with_reducible apply Grew.drew | with_reducible apply Grew.alloc | with_reducible refine Grew.setCell ?_ (by simp [go_sem]; try omega) _))⟩
end
end Go.Proofs.YtnhmekdnfinmiaaGreatDoor
/- Walks: the document's reader of packet: End (printed by wip/gen_rdo.py). -/
namespace Go.Proofs.YtnhmekdnfinmiaaGreatDoor
open Go.RowKit Go.Par
set_option linter.unusedSimpArgs false
set_option linter.unusedVariables false
set_option maxRecDepth 100000 in
theorem wrap_zero (l c : ByteArray) (i : Int) (w : World) : Calls Tryz.prog 49 #[.string l, .string c, .int .i64 i, noV 0 none 0 0 none 0 0] w fun e w' => e = .returned (noV 0 none 0 0 none 0 0) ∧ Grew w w' := by
  unfold noV
  go_enter Tryz.func49, Tryz.ntmps49
  go_wp2_with fail
  exact bodyPost_ret (v := noV 0 none 0 0 none 0 0) (by simp [results, Tryz.results49, go_sem, noV]) rfl ⟨rfl, by repeat (first | with_reducible exact HG.out | with_reducible exact Grew.refl _ | with_reducible assumption | with_reducible apply Grew.plus | with_reducible apply Grew.drewN | with_reducible apply Grew.drew | with_reducible apply Grew.alloc | with_reducible refine Grew.setCell ?_ (by simp [go_sem]; try omega) _)⟩
theorem load_no {W : World} {D : Nat} {x0 x1 k s1 s2 : Value} (hD : W.heap[D]? = some (.cells #[x0, x1, k, s1, s2] tD2 (0, 0))) : (loadRows 45 (.pointer (some ⟨D, 2, none⟩))).run Tryz.prog W = .ok (.agg #[k, s1, s2]) W := by
  have h := run_loadAt_rows (P := Tryz.prog) 45 ⟨D, 2, none⟩ W
  rw [h]
  have hc : W.cellsAt ⟨D, 2, none⟩ 3 = some [k, s1, s2] := cellsAt_mid hD 2 3 (by simp)
  have h1 : (isAgg 45).run Tryz.prog W = .ok true W := by kernel_rfl
  have h2 : (sizeOf 45).run Tryz.prog W = .ok 3 W := by kernel_rfl
  rw [h1]
  simp only [Result.andThen_ok, if_true, h2, hc]
theorem quiet_load_no {o : Oper} {a : Act} {C : World → Prop} {K : Act → Prop} {D : Nat} {k s1 s2 : Value} (x : Operand) (ho : o.op = .load 45 x) (hx : a.eval x = .pointer (some ⟨D, 2, none⟩)) (hl : ∀ W, C W → (loadRows 45 (.pointer (some ⟨D, 2, none⟩))).run Tryz.prog W = .ok (.agg #[k, s1, s2]) W)
    (hk : K (a.put o.dst (.agg #[k, s1, s2]))) : o.quiet Tryz.prog a C K :=
  ⟨.agg #[k, s1, s2], fun W hW => by
    have hl := hl W hW
    unfold loadRows at hl
    have : (execOp a.eval o).run Tryz.prog W = .ok (.value (.agg #[k, s1, s2])) W := by
      simp only [execOp, ho, hx, Sem.run_bind, hl, Result.andThen_ok]
      rfl
    unfold Oper.quietAt
    rw [this]
    exact ⟨rfl, rfl⟩, hk⟩
def refNo (L C : ByteArray) : Ref → Nat × List Link × List Nat
  | .wire c p k => (k, [(L, C, (p : Int)), (bWire, c, (p : Int))], [k])
  | .form p => (6, [(L, C, (p : Int))], [6])
def NoAt (W : World) (cb : List Nat) (n0 : Nat) (x : Nat × List Link × List Nat) (v : Value) : Prop := ∃ a1 c1 a2 c2, v = noV x.1 a1 x.2.1.length c1 a2 x.2.2.length c2 ∧ 1 ≤ x.1 ∧ CellsIn W a1 (linkCells x.2.1) ∧ CellsIn W a2 (nats x.2.2) ∧ x.2.1.length ≤ c1 ∧ x.2.2.length ≤ c2 ∧ c1 ≤ 9223372036854775807 ∧ c2 ≤ 9223372036854775807 ∧ (∀ q, a1 = some q → n0 ≤ q.block ∨ q.block ∈ cb) ∧ (∀ q, a2 = some q → n0 ≤ q.block ∨ q.block ∈ cb)
def EndV (W : World) (cb : List Nat) (n0 : Nat) (L C : ByteArray) (s : DSt) (v : Value) : Prop := match s.bad with
  | none => v = noV 0 none 0 0 none 0 0
  | some r => NoAt W cb n0 (refNo L C r) v
section
variable {w w' : World} {D2 D9 : Nat} {a : Option Addr} {cap : Nat} {l : List UInt8} {cb : List Nat} {s : DSt}
set_option maxRecDepth 100000 in
set_option maxHeartbeats 2000000 in
theorem r9_end (L C : ByteArray) (h : DS w D2 D9 a cap l cb s) :
    Calls Tryz.prog 22 #[pt D9, .string L, .string C] w fun e w' => GrewX [D2, D9] w w' ∧ ∃ v, e = .returned v ∧ EndV w' cb w.heap.size L C (dEnd l s).2 v := by
  have BD := Lib.hid (fun W (hW : Grew w W) => r9_bad (h.grew hW))
  have H := Lib.hid h
  have hD2 := h.c9.1
  have hD9 := h.c9.2.1
  have n29 := h.c9.2.2.1
  obtain ⟨-, -, -, b, q, h9, x0, x1, x2, x3, x4, h2, -⟩ := h.c9
  obtain ⟨y0, -⟩ := World.own_cell h9 0 _ rfl
  have hcl : ∀ k ∈ cb, k < w.heap.size := h.lt
  obtain ⟨p, bad⟩ := s
  cases bad with
  | some r =>
    have hdb : dEnd l ⟨p, some r⟩ = ((), ⟨p, some r⟩) := rfl
    rw [hdb]
    clear hdb h h9 y0 h2
    go_enter Tryz.func22, Tryz.ntmps22
    go_upto_region 3 with (go_at_call 15; refine (BD.out _ (by exact by repeat (first | with_reducible exact HG.out | with_reducible exact Grew.refl _ | with_reducible assumption | with_reducible apply Grew.plus | with_reducible apply Grew.drewN | with_reducible apply Grew.drew | with_reducible apply Grew.alloc | with_reducible refine Grew.setCell ?_ (by simp [go_sem]; try omega) _))).mono ?_; rintro e w' ⟨rfl, rfl⟩; simp only [Option.isSome])
    obtain ⟨W, hW⟩ : ∃ W, W = w.alloc (.cells #[.int .i64 0, .slice none 0 0, .slice none 0 0] 45) := ⟨_, rfl⟩
    rw [← hW]
    have hR : W.heap[w.heap.size]? = some (.cells #[.int .i64 0, .slice none 0 0, .slice none 0 0] 45 (0, 0)) := by rw [hW]; exact heap_alloc_new w _
    have hgw : GrewX [D2, D9] w W := by rw [hW]; exact GrewX.of_grew ((Grew.refl w).alloc _)
    have hd : DB W D2 D9 a cap l p cb r := by rw [hW]; exact H.out.1.grew ((Grew.refl w).alloc _)
    obtain ⟨cb1, hcb1⟩ : ∃ cb1, cb1 = cb := ⟨_, rfl⟩
    rw [← hcb1] at hd
    have hbR : ∀ k ∈ cb1, k ≠ w.heap.size := fun k hk => by rw [hcb1] at hk; have := hcl k hk; omega
    have hcb1 : ∀ k ∈ cb1, k ∈ cb ∨ w.heap.size ≤ k := fun k hk => .inl (hcb1 ▸ hk)
    clear hW
    cases hd with
    | @form q0 hc2 hc9 hlt =>
      obtain ⟨u0, -⟩ := World.own_cell hc2 0 _ rfl
      obtain ⟨u1, -⟩ := World.own_cell hc2 1 _ rfl
      obtain ⟨u2, -⟩ := World.own_cell hc2 2 _ rfl
      obtain ⟨u3, -⟩ := World.own_cell hc2 3 _ rfl
      obtain ⟨u4, -⟩ := World.own_cell hc2 4 _ rfl
      obtain ⟨v0, -⟩ := World.own_cell hc9 0 _ rfl
      obtain ⟨v1, -⟩ := World.own_cell hc9 1 _ rfl
      obtain ⟨v2, -⟩ := World.own_cell hc9 2 _ rfl
      have lD2 : D2 < W.heap.size := World.block_lt_of_cell? W _ u0
      have lD9 : D9 < W.heap.size := World.block_lt_of_cell? W _ v0
      have HP := Lib.hid (And.intro hgw hR)
      clear hgw hR hc2 hc9
      go_wp2_with fail
      refine (say_any _ _ _ 6 (by decide) _).mono ?_
      rintro e w2 ⟨ar, cp, b, rfl, hl, hc1, hc2, hn, hf1, hf2, hg2⟩
      rw [show max (q0 : Int) (-1) = q0 by omega] at hl
      have hsz := HP.out.1.size
      have HF := Lib.hid (And.intro hl (And.intro hn (And.intro hc1 (And.intro hc2 (And.intro hf1 hf2)))))
      have hgw : GrewX [D2, D9] w w2 := HP.out.1.trans (GrewX.of_grew hg2)
      have hR : w2.heap[w.heap.size]? = some (.cells #[.int .i64 0, .slice none 0 0, .slice none 0 0] 45 (0, 0)) := Grew.heap hg2 HP.out.2
      have hne1 : ∀ q, ar = some q → q.block ≠ w.heap.size := fun q hq => by have := hf1 q hq; have := (Array.getElem?_eq_some_iff.1 HP.out.2).1; omega
      have hne2 : ∀ q, b = some q → q.block ≠ w.heap.size := fun q hq => by have := hf2 q hq; have := (Array.getElem?_eq_some_iff.1 HP.out.2).1; omega
      have HNE := Lib.hid (And.intro hne1 hne2)
      clear hg2 hl hn hc1 hc2 hf1 hf2 hne1 hne2 u0 u1 u2 u3 u4 v0 v1 v2 lD2 lD9
      obtain ⟨z0, n0⟩ := World.own_cell hR 0 _ rfl
      obtain ⟨z1, n1⟩ := World.own_cell hR 1 _ rfl
      obtain ⟨z2, n2⟩ := World.own_cell hR 2 _ rfl
      have lR1 : w.heap.size < w2.heap.size := World.block_lt_of_cell? _ _ z0
      have HX := Lib.hid (And.intro hgw hR)
      unfold noV
      clear hgw hR
      go_wp2_with fail
      obtain ⟨hgw, hR⟩ := HX.out
      have h3 := own3 hR (.int .i64 6) (.slice ar 1 cp) (.slice b 1 1)
      have g3 := gx3 (w := w2) w.heap.size (.int .i64 6) (.slice ar 1 cp) (.slice b 1 1)
      obtain ⟨f0, -⟩ := World.own_cell h3 0 _ rfl
      obtain ⟨f1, -⟩ := World.own_cell h3 1 _ rfl
      obtain ⟨f2, -⟩ := World.own_cell h3 2 _ rfl
      refine bodyPost_ret (v := noV 6 ar 1 cp b 1 1) (by simp [results, Tryz.results22, go_sem, f0, f1, f2, noV]) rfl ⟨?_, _, rfl, ar, cp, b, 1, rfl, (by simp [refNo]), g3.cells HF.out.1 (fun q hq => by simpa using HNE.out.1 q hq), g3.cells HF.out.2.1 (fun q hq => by simpa using HNE.out.2 q hq), HF.out.2.2.1, by simp [refNo], HF.out.2.2.2.1, by omega, fun q hq => .inl (Nat.le_trans hsz (HF.out.2.2.2.2.1 q hq)), fun q hq => .inl (Nat.le_trans hsz (HF.out.2.2.2.2.2 q hq))⟩
      exact ((hgw.mono (ks' := [D2, D9, w.heap.size]) (by simp)).trans (g3.mono (by simp))).fresh (fun k hk => by
        rcases (by simpa using hk : k = D2 ∨ k = D9 ∨ k = w.heap.size) with rfl | rfl | rfl
        · exact .inl (by simp)
        · exact .inl (by simp)
        · exact .inr (Nat.le_refl _))
    | @wire c k cp ar b hk1 hk13 hc2 hc9 har hcp1 hcp2 hb hfa hfb hlt =>
      obtain ⟨u0, -⟩ := World.own_cell hc2 0 _ rfl
      obtain ⟨u1, -⟩ := World.own_cell hc2 1 _ rfl
      obtain ⟨u2, -⟩ := World.own_cell hc2 2 _ rfl
      obtain ⟨u3, -⟩ := World.own_cell hc2 3 _ rfl
      obtain ⟨u4, -⟩ := World.own_cell hc2 4 _ rfl
      obtain ⟨v0, -⟩ := World.own_cell hc9 0 _ rfl
      obtain ⟨v1, -⟩ := World.own_cell hc9 1 _ rfl
      obtain ⟨v2, -⟩ := World.own_cell hc9 2 _ rfl
      have lD2 : D2 < W.heap.size := World.block_lt_of_cell? W _ u0
      have lD9 : D9 < W.heap.size := World.block_lt_of_cell? W _ v0
      have HP := Lib.hid (And.intro hgw hR)
      have HB := Lib.hid (And.intro har (And.intro hb (And.intro hfa (And.intro hfb hlt))))
      have WR := Lib.hid (fun W' (hW : Grew W W') => wrap_some L C p k (by omega) [(bWire, c, p)] ar b cp 1 1 W' (CellsIn.grew HB.out.1 hW) (fun e => by subst e; exact absurd (HB.out.1 (by simp [linkCells, linkRow])) (by rintro ⟨_, _, h, _⟩; cases h)) (by simp))
      have HC0 := Lib.hid hc2
      clear hgw hR hc2 hc9 har hb hfa hfb hlt
      go_wp2_with fail
      have HC2 := Lib.hid (fun x => load_no (Grew.heap ((Grew.refl W).plus x) HC0.out))
      refine wp_region_plus_tail 16 (by kernel_rfl) (by kernel_rfl) ?_
      simp only [List.take_succ_cons, List.take_zero, List.drop_succ_cons, List.drop_zero]
      repeat (first
        | (go_big_quiet_want; refine quiet_load_no (.tmp 40) (by rfl) (by rfl) (fun W' hW => by obtain ⟨x, rfl⟩ := hW; exact HC2.out x) ?_; simp only [Act.put, List.setIfInBounds_toArray, List.set_cons_zero, List.set_cons_succ]; go_big_quiet_on)
        | go_big_quiet_step (fail))
      refine wpQuiet_nil ?_
      intro _ hw'
      obtain ⟨nx, rfl⟩ := hw'
      obtain ⟨W1, hW1⟩ : ∃ W1, W1 = W.plus nx := ⟨_, rfl⟩
      have hG1 : Grew W W1 := by rw [hW1]; exact (Grew.refl _).plus nx
      rw [← hW1]
      have HG1 := Lib.hid hG1
      clear hW1 hG1 u0 u1 u2 u3 u4 v0 v1 v2 lD2 lD9
      go_wp2_with fail
      refine (WR.out _ HG1.out).mono ?_
      rintro e w2 ⟨a3, c3, rfl, ho, hg2⟩
      obtain ⟨ar', cp', e', hn1, hm1, hin, hfr, hno⟩ := ho.rd
      cases e'
      rw [show max (p : Int) (-1) = p by omega] at hin
      have hsz := HP.out.1.size
      have hlW := (Array.getElem?_eq_some_iff.1 HP.out.2).1
      have hs1 := HG1.out.size
      have HF := Lib.hid (And.intro hin (And.intro (CellsIn.grew HB.out.2.1 (Grew.trans HG1.out hg2)) (And.intro hn1 (And.intro hm1 hfr))))
      have hgw : GrewX [D2, D9] w w2 := HP.out.1.trans (GrewX.of_grew (HG1.out.trans hg2))
      have hR : w2.heap[w.heap.size]? = some (.cells #[.int .i64 0, .slice none 0 0, .slice none 0 0] 45 (0, 0)) := Grew.heap (Grew.trans HG1.out hg2) HP.out.2
      clear hg2 hin hn1 hm1 hfr hno ho
      obtain ⟨z0, n0⟩ := World.own_cell hR 0 _ rfl
      obtain ⟨z1, n1⟩ := World.own_cell hR 1 _ rfl
      obtain ⟨z2, n2⟩ := World.own_cell hR 2 _ rfl
      have lR1 : w.heap.size < w2.heap.size := World.block_lt_of_cell? _ _ z0
      have HX := Lib.hid (And.intro hgw hR)
      unfold noV
      clear hgw hR
      go_wp2_with fail
      obtain ⟨hgw, hR⟩ := HX.out
      have h3 := own3 hR (.int .i64 k) (.slice a3 2 c3) (.slice b 1 1)
      have g3 := gx3 (w := w2) w.heap.size (.int .i64 k) (.slice a3 2 c3) (.slice b 1 1)
      obtain ⟨f0, -⟩ := World.own_cell h3 0 _ rfl
      obtain ⟨f1, -⟩ := World.own_cell h3 1 _ rfl
      obtain ⟨f2, -⟩ := World.own_cell h3 2 _ rfl
      refine bodyPost_ret (v := noV k a3 2 c3 b 1 1) (by simp [results, Tryz.results22, go_sem, f0, f1, f2, noV]) rfl ⟨?_, _, rfl, a3, c3, b, 1, rfl, hk1, g3.cells HF.out.1 (fun q hq => by have := (HF.out.2.2.2.2 q hq).1; simp; omega), g3.cells HF.out.2.1 (fun q hq => by have := hbR _ (HB.out.2.2.2.1 q hq); simpa using this), HF.out.2.2.1, by simp [refNo], HF.out.2.2.2.1, by omega, fun q hq => .inl (by have := (HF.out.2.2.2.2 q hq).1; omega), fun q hq => (hcb1 _ (HB.out.2.2.2.1 q hq)).symm⟩
      exact ((hgw.mono (ks' := [D2, D9, w.heap.size]) (by simp)).trans (g3.mono (by simp))).fresh (fun k hk => by
        rcases (by simpa using hk : k = D2 ∨ k = D9 ∨ k = w.heap.size) with rfl | rfl | rfl
        · exact .inl (by simp)
        · exact .inl (by simp)
        · exact .inr (Nat.le_refl _))
  | none =>
    have hd0 : DG w D2 D9 a cap l p := h.1
    have RE := Lib.hid (fun W (hW : Grew w W) => r2_end (hd0.grew hW))
    have hne : w.heap.size ≠ D2 := by omega
    clear h h9 h2
    cases hwe : wEnd l p with
    | ok x =>
      have hdb : (dEnd l ⟨p, none⟩).2 = ⟨p, none⟩ := by
        have h1 : x.2 = p := by unfold wEnd at hwe; split at hwe <;> cases hwe; rfl
        unfold dEnd dW
        rw [hwe]
        simp only [h1]
      rw [hwe] at RE
      rw [hdb]
      clear hdb
      go_enter Tryz.func22, Tryz.ntmps22
      go_upto_region 2 with (go_at_call 15; refine (BD.out _ (by exact by repeat (first | with_reducible exact HG.out | with_reducible exact Grew.refl _ | with_reducible assumption | with_reducible apply Grew.plus | with_reducible apply Grew.drewN | with_reducible apply Grew.drew | with_reducible apply Grew.alloc | with_reducible refine Grew.setCell ?_ (by simp [go_sem]; try omega) _))).mono ?_; rintro e w' ⟨rfl, rfl⟩; simp only [Option.isSome])
      go_upto_region 3 with (go_at_call 47; refine (RE.out _ (by exact by repeat (first | with_reducible exact HG.out | with_reducible exact Grew.refl _ | with_reducible assumption | with_reducible apply Grew.plus | with_reducible apply Grew.drewN | with_reducible apply Grew.drew | with_reducible apply Grew.alloc | with_reducible refine Grew.setCell ?_ (by simp [go_sem]; try omega) _))).mono ?_; rintro e W ⟨⟨v, rfl, k1, b1, m1, d1, b2, m2, d2, rfl⟩, hg1, hm⟩; have HM := Lib.hid (And.intro hg1 hm); clear hg1 hm)
      obtain ⟨hg1, hm⟩ := HM.out
      clear HM
      have hR : W.heap[w.heap.size]? = some (.cells #[.int .i64 0, .slice none 0 0, .slice none 0 0] 45 (0, 0)) := hg1.heap (heap_alloc_new w _) (by simpa using hne)
      have hgw : GrewX [D2, D9] w W := (GrewX.of_grew ((Grew.refl w).alloc _)).trans (hg1.mono (by simp))
      unfold noV
      clear hg1 y0 hwe
      have hd : DG W D2 D9 a cap l p := hm
      clear hm
      obtain ⟨hc2, hc9⟩ := And.intro hd.c2 hd.c9
      obtain ⟨u0, -⟩ := World.own_cell hc2 0 _ rfl
      obtain ⟨u1, -⟩ := World.own_cell hc2 1 _ rfl
      obtain ⟨u2, -⟩ := World.own_cell hc2 2 _ rfl
      obtain ⟨u3, -⟩ := World.own_cell hc2 3 _ rfl
      obtain ⟨u4, -⟩ := World.own_cell hc2 4 _ rfl
      obtain ⟨v0, -⟩ := World.own_cell hc9 0 _ rfl
      obtain ⟨v1, -⟩ := World.own_cell hc9 1 _ rfl
      obtain ⟨v2, -⟩ := World.own_cell hc9 2 _ rfl
      have lD2 : D2 < W.heap.size := World.block_lt_of_cell? W _ u0
      have lD9 : D9 < W.heap.size := World.block_lt_of_cell? W _ v0
      have HP := Lib.hid (And.intro hgw hR)
      have HC0 := Lib.hid hc2
      clear hgw hR hc2 hc9 hd
      go_wp2_with fail
      have HC2 := Lib.hid (fun x => load_no (Grew.heap ((Grew.refl W).plus x) HC0.out))
      refine wp_region_plus_tail 16 (by kernel_rfl) (by kernel_rfl) ?_
      simp only [List.take_succ_cons, List.take_zero, List.drop_succ_cons, List.drop_zero]
      repeat (first
        | (go_big_quiet_want; refine quiet_load_no (.tmp 40) (by rfl) (by rfl) (fun W' hW => by obtain ⟨x, rfl⟩ := hW; exact HC2.out x) ?_; simp only [Act.put, List.setIfInBounds_toArray, List.set_cons_zero, List.set_cons_succ]; go_big_quiet_on)
        | go_big_quiet_step (fail))
      refine wpQuiet_nil ?_
      intro _ hw'
      obtain ⟨nx, rfl⟩ := hw'
      obtain ⟨W1, hW1⟩ : ∃ W1, W1 = W.plus nx := ⟨_, rfl⟩
      have hG1 : Grew W W1 := by rw [hW1]; exact (Grew.refl _).plus nx
      rw [← hW1]
      have HG1 := Lib.hid hG1
      clear hW1 hG1 u0 u1 u2 u3 u4 v0 v1 v2 lD2 lD9
      go_wp2_with fail
      refine (wrap_zero _ _ _ _).mono ?_
      rintro e w2 ⟨rfl, hg2⟩
      have hgw : GrewX [D2, D9] w w2 := HP.out.1.trans (GrewX.of_grew (HG1.out.trans hg2))
      have hR : w2.heap[w.heap.size]? = some (.cells #[.int .i64 0, .slice none 0 0, .slice none 0 0] 45 (0, 0)) := Grew.heap (Grew.trans HG1.out hg2) HP.out.2
      clear hg2
      obtain ⟨z0, n0⟩ := World.own_cell hR 0 _ rfl
      obtain ⟨z1, n1⟩ := World.own_cell hR 1 _ rfl
      obtain ⟨z2, n2⟩ := World.own_cell hR 2 _ rfl
      have lR1 : w.heap.size < w2.heap.size := World.block_lt_of_cell? _ _ z0
      have HX := Lib.hid (And.intro hgw hR)
      unfold noV
      clear hgw hR
      go_wp2_with fail
      obtain ⟨hgw, hR⟩ := HX.out
      have h3 := own3 hR (.int .i64 0) (.slice none 0 0) (.slice none 0 0)
      have g3 := gx3 (w := w2) w.heap.size (.int .i64 0) (.slice none 0 0) (.slice none 0 0)
      obtain ⟨f0, -⟩ := World.own_cell h3 0 _ rfl
      obtain ⟨f1, -⟩ := World.own_cell h3 1 _ rfl
      obtain ⟨f2, -⟩ := World.own_cell h3 2 _ rfl
      refine bodyPost_ret (v := noV 0 none 0 0 none 0 0) (by simp [results, Tryz.results22, go_sem, f0, f1, f2, noV]) rfl ⟨?_, _, rfl, rfl⟩
      exact ((hgw.mono (ks' := [D2, D9, w.heap.size]) (by simp)).trans (g3.mono (by simp))).fresh (fun k hk => by
        rcases (by simpa using hk : k = D2 ∨ k = D9 ∨ k = w.heap.size) with rfl | rfl | rfl
        · exact .inl (by simp)
        · exact .inl (by simp)
        · exact .inr (Nat.le_refl _))
    | error r =>
      have hdb : (dEnd l ⟨p, none⟩).2 = ⟨p, some r⟩ := by unfold dEnd dW; rw [hwe]
      rw [hwe] at RE
      rw [hdb]
      clear hdb
      go_enter Tryz.func22, Tryz.ntmps22
      go_upto_region 2 with (go_at_call 15; refine (BD.out _ (by exact by repeat (first | with_reducible exact HG.out | with_reducible exact Grew.refl _ | with_reducible assumption | with_reducible apply Grew.plus | with_reducible apply Grew.drewN | with_reducible apply Grew.drew | with_reducible apply Grew.alloc | with_reducible refine Grew.setCell ?_ (by simp [go_sem]; try omega) _))).mono ?_; rintro e w' ⟨rfl, rfl⟩; simp only [Option.isSome])
      go_upto_region 3 with (go_at_call 47; refine (RE.out _ (by exact by repeat (first | with_reducible exact HG.out | with_reducible exact Grew.refl _ | with_reducible assumption | with_reducible apply Grew.plus | with_reducible apply Grew.drewN | with_reducible apply Grew.drew | with_reducible apply Grew.alloc | with_reducible refine Grew.setCell ?_ (by simp [go_sem]; try omega) _))).mono ?_; rintro e W ⟨⟨v, rfl, k1, b1, m1, d1, b2, m2, d2, rfl⟩, hg1, hm⟩; have HM := Lib.hid (And.intro hg1 hm); clear hg1 hm)
      obtain ⟨hg1, hm⟩ := HM.out
      clear HM
      have hR : W.heap[w.heap.size]? = some (.cells #[.int .i64 0, .slice none 0 0, .slice none 0 0] 45 (0, 0)) := hg1.heap (heap_alloc_new w _) (by simpa using hne)
      have hgw : GrewX [D2, D9] w W := (GrewX.of_grew ((Grew.refl w).alloc _)).trans (hg1.mono (by simp))
      unfold noV
      clear hg1 y0 hwe
      obtain ⟨cb1, hcb, hd⟩ : ∃ cb', (∀ k ∈ cb', _ ≤ k) ∧ DB W D2 D9 a cap l p cb' r := hm
      rw [alloc_size1] at hcb
      have hbR : ∀ k ∈ cb1, k ≠ w.heap.size := fun k hk => by have := hcb k hk; omega
      have hcb1 : ∀ k ∈ cb1, k ∈ cb ∨ w.heap.size ≤ k := fun k hk => .inr (by have := hcb k hk; omega)
      clear hcb
      cases hd with
      | @form q0 hc2 hc9 hlt =>
        obtain ⟨u0, -⟩ := World.own_cell hc2 0 _ rfl
        obtain ⟨u1, -⟩ := World.own_cell hc2 1 _ rfl
        obtain ⟨u2, -⟩ := World.own_cell hc2 2 _ rfl
        obtain ⟨u3, -⟩ := World.own_cell hc2 3 _ rfl
        obtain ⟨u4, -⟩ := World.own_cell hc2 4 _ rfl
        obtain ⟨v0, -⟩ := World.own_cell hc9 0 _ rfl
        obtain ⟨v1, -⟩ := World.own_cell hc9 1 _ rfl
        obtain ⟨v2, -⟩ := World.own_cell hc9 2 _ rfl
        have lD2 : D2 < W.heap.size := World.block_lt_of_cell? W _ u0
        have lD9 : D9 < W.heap.size := World.block_lt_of_cell? W _ v0
        have HP := Lib.hid (And.intro hgw hR)
        clear hgw hR hc2 hc9
        go_wp2_with fail
        refine (say_any _ _ _ 6 (by decide) _).mono ?_
        rintro e w2 ⟨ar, cp, b, rfl, hl, hc1, hc2, hn, hf1, hf2, hg2⟩
        rw [show max (q0 : Int) (-1) = q0 by omega] at hl
        have hsz := HP.out.1.size
        have HF := Lib.hid (And.intro hl (And.intro hn (And.intro hc1 (And.intro hc2 (And.intro hf1 hf2)))))
        have hgw : GrewX [D2, D9] w w2 := HP.out.1.trans (GrewX.of_grew hg2)
        have hR : w2.heap[w.heap.size]? = some (.cells #[.int .i64 0, .slice none 0 0, .slice none 0 0] 45 (0, 0)) := Grew.heap hg2 HP.out.2
        have hne1 : ∀ q, ar = some q → q.block ≠ w.heap.size := fun q hq => by have := hf1 q hq; have := (Array.getElem?_eq_some_iff.1 HP.out.2).1; omega
        have hne2 : ∀ q, b = some q → q.block ≠ w.heap.size := fun q hq => by have := hf2 q hq; have := (Array.getElem?_eq_some_iff.1 HP.out.2).1; omega
        have HNE := Lib.hid (And.intro hne1 hne2)
        clear hg2 hl hn hc1 hc2 hf1 hf2 hne1 hne2 u0 u1 u2 u3 u4 v0 v1 v2 lD2 lD9
        obtain ⟨z0, n0⟩ := World.own_cell hR 0 _ rfl
        obtain ⟨z1, n1⟩ := World.own_cell hR 1 _ rfl
        obtain ⟨z2, n2⟩ := World.own_cell hR 2 _ rfl
        have lR1 : w.heap.size < w2.heap.size := World.block_lt_of_cell? _ _ z0
        have HX := Lib.hid (And.intro hgw hR)
        unfold noV
        clear hgw hR
        go_wp2_with fail
        obtain ⟨hgw, hR⟩ := HX.out
        have h3 := own3 hR (.int .i64 6) (.slice ar 1 cp) (.slice b 1 1)
        have g3 := gx3 (w := w2) w.heap.size (.int .i64 6) (.slice ar 1 cp) (.slice b 1 1)
        obtain ⟨f0, -⟩ := World.own_cell h3 0 _ rfl
        obtain ⟨f1, -⟩ := World.own_cell h3 1 _ rfl
        obtain ⟨f2, -⟩ := World.own_cell h3 2 _ rfl
        refine bodyPost_ret (v := noV 6 ar 1 cp b 1 1) (by simp [results, Tryz.results22, go_sem, f0, f1, f2, noV]) rfl ⟨?_, _, rfl, ar, cp, b, 1, rfl, (by simp [refNo]), g3.cells HF.out.1 (fun q hq => by simpa using HNE.out.1 q hq), g3.cells HF.out.2.1 (fun q hq => by simpa using HNE.out.2 q hq), HF.out.2.2.1, by simp [refNo], HF.out.2.2.2.1, by omega, fun q hq => .inl (Nat.le_trans hsz (HF.out.2.2.2.2.1 q hq)), fun q hq => .inl (Nat.le_trans hsz (HF.out.2.2.2.2.2 q hq))⟩
        exact ((hgw.mono (ks' := [D2, D9, w.heap.size]) (by simp)).trans (g3.mono (by simp))).fresh (fun k hk => by
          rcases (by simpa using hk : k = D2 ∨ k = D9 ∨ k = w.heap.size) with rfl | rfl | rfl
          · exact .inl (by simp)
          · exact .inl (by simp)
          · exact .inr (Nat.le_refl _))
      | @wire c k cp ar b hk1 hk13 hc2 hc9 har hcp1 hcp2 hb hfa hfb hlt =>
        obtain ⟨u0, -⟩ := World.own_cell hc2 0 _ rfl
        obtain ⟨u1, -⟩ := World.own_cell hc2 1 _ rfl
        obtain ⟨u2, -⟩ := World.own_cell hc2 2 _ rfl
        obtain ⟨u3, -⟩ := World.own_cell hc2 3 _ rfl
        obtain ⟨u4, -⟩ := World.own_cell hc2 4 _ rfl
        obtain ⟨v0, -⟩ := World.own_cell hc9 0 _ rfl
        obtain ⟨v1, -⟩ := World.own_cell hc9 1 _ rfl
        obtain ⟨v2, -⟩ := World.own_cell hc9 2 _ rfl
        have lD2 : D2 < W.heap.size := World.block_lt_of_cell? W _ u0
        have lD9 : D9 < W.heap.size := World.block_lt_of_cell? W _ v0
        have HP := Lib.hid (And.intro hgw hR)
        have HB := Lib.hid (And.intro har (And.intro hb (And.intro hfa (And.intro hfb hlt))))
        have WR := Lib.hid (fun W' (hW : Grew W W') => wrap_some L C p k (by omega) [(bWire, c, p)] ar b cp 1 1 W' (CellsIn.grew HB.out.1 hW) (fun e => by subst e; exact absurd (HB.out.1 (by simp [linkCells, linkRow])) (by rintro ⟨_, _, h, _⟩; cases h)) (by simp))
        have HC0 := Lib.hid hc2
        clear hgw hR hc2 hc9 har hb hfa hfb hlt
        go_wp2_with fail
        have HC2 := Lib.hid (fun x => load_no (Grew.heap ((Grew.refl W).plus x) HC0.out))
        refine wp_region_plus_tail 16 (by kernel_rfl) (by kernel_rfl) ?_
        simp only [List.take_succ_cons, List.take_zero, List.drop_succ_cons, List.drop_zero]
        repeat (first
          | (go_big_quiet_want; refine quiet_load_no (.tmp 40) (by rfl) (by rfl) (fun W' hW => by obtain ⟨x, rfl⟩ := hW; exact HC2.out x) ?_; simp only [Act.put, List.setIfInBounds_toArray, List.set_cons_zero, List.set_cons_succ]; go_big_quiet_on)
          | go_big_quiet_step (fail))
        refine wpQuiet_nil ?_
        intro _ hw'
        obtain ⟨nx, rfl⟩ := hw'
        obtain ⟨W1, hW1⟩ : ∃ W1, W1 = W.plus nx := ⟨_, rfl⟩
        have hG1 : Grew W W1 := by rw [hW1]; exact (Grew.refl _).plus nx
        rw [← hW1]
        have HG1 := Lib.hid hG1
        clear hW1 hG1 u0 u1 u2 u3 u4 v0 v1 v2 lD2 lD9
        go_wp2_with fail
        refine (WR.out _ HG1.out).mono ?_
        rintro e w2 ⟨a3, c3, rfl, ho, hg2⟩
        obtain ⟨ar', cp', e', hn1, hm1, hin, hfr, hno⟩ := ho.rd
        cases e'
        rw [show max (p : Int) (-1) = p by omega] at hin
        have hsz := HP.out.1.size
        have hlW := (Array.getElem?_eq_some_iff.1 HP.out.2).1
        have hs1 := HG1.out.size
        have HF := Lib.hid (And.intro hin (And.intro (CellsIn.grew HB.out.2.1 (Grew.trans HG1.out hg2)) (And.intro hn1 (And.intro hm1 hfr))))
        have hgw : GrewX [D2, D9] w w2 := HP.out.1.trans (GrewX.of_grew (HG1.out.trans hg2))
        have hR : w2.heap[w.heap.size]? = some (.cells #[.int .i64 0, .slice none 0 0, .slice none 0 0] 45 (0, 0)) := Grew.heap (Grew.trans HG1.out hg2) HP.out.2
        clear hg2 hin hn1 hm1 hfr hno ho
        obtain ⟨z0, n0⟩ := World.own_cell hR 0 _ rfl
        obtain ⟨z1, n1⟩ := World.own_cell hR 1 _ rfl
        obtain ⟨z2, n2⟩ := World.own_cell hR 2 _ rfl
        have lR1 : w.heap.size < w2.heap.size := World.block_lt_of_cell? _ _ z0
        have HX := Lib.hid (And.intro hgw hR)
        unfold noV
        clear hgw hR
        go_wp2_with fail
        obtain ⟨hgw, hR⟩ := HX.out
        have h3 := own3 hR (.int .i64 k) (.slice a3 2 c3) (.slice b 1 1)
        have g3 := gx3 (w := w2) w.heap.size (.int .i64 k) (.slice a3 2 c3) (.slice b 1 1)
        obtain ⟨f0, -⟩ := World.own_cell h3 0 _ rfl
        obtain ⟨f1, -⟩ := World.own_cell h3 1 _ rfl
        obtain ⟨f2, -⟩ := World.own_cell h3 2 _ rfl
        refine bodyPost_ret (v := noV k a3 2 c3 b 1 1) (by simp [results, Tryz.results22, go_sem, f0, f1, f2, noV]) rfl ⟨?_, _, rfl, a3, c3, b, 1, rfl, hk1, g3.cells HF.out.1 (fun q hq => by have := (HF.out.2.2.2.2 q hq).1; simp; omega), g3.cells HF.out.2.1 (fun q hq => by have := hbR _ (HB.out.2.2.2.1 q hq); simpa using this), HF.out.2.2.1, by simp [refNo], HF.out.2.2.2.1, by omega, fun q hq => .inl (by have := (HF.out.2.2.2.2 q hq).1; omega), fun q hq => (hcb1 _ (HB.out.2.2.2.1 q hq)).symm⟩
        exact ((hgw.mono (ks' := [D2, D9, w.heap.size]) (by simp)).trans (g3.mono (by simp))).fresh (fun k hk => by
          rcases (by simpa using hk : k = D2 ∨ k = D9 ∨ k = w.heap.size) with rfl | rfl | rfl
          · exact .inl (by simp)
          · exact .inl (by simp)
          · exact .inr (Nat.le_refl _))
end
end Go.Proofs.YtnhmekdnfinmiaaGreatDoor
/- Walks: the document's Parts: the loop over the base (printed by wip/gen_rdp.py). -/
namespace Go.Par
def dbaseB (l : List UInt8) (_ : Nat) (xs : List PEl) : DM (List PEl) := (dEl l).bind fun a => DM.pure (xs ++ [a])
theorem dBase_eq (l : List UInt8) : dBase l = (dCount l 4).bind fun n => dLoop (dbaseB l) n 0 [] := rfl
theorem dEl_is {l : List UInt8} {s s1 s2 : DSt} {i : PId} {c : Nat} (h1 : dId l s = (i, s1)) (h2 : dNum l 1114111 s1 = (c, s2)) : dEl l s = (⟨i, c⟩, s2) := (dbind_is h1).trans (dbind_is h2)
end Go.Par
namespace Go.Proofs.YtnhmekdnfinmiaaGreatDoor
open Go.RowKit Go.Par
set_option linter.unusedSimpArgs false
set_option linter.unusedVariables false
noncomputable def dpLoop0 : Code := (((Tryz.f5.body.map loopsOf).getD [])[0]?).getD .skip
section
variable {w w' W W' : World} {D2 D9 : Nat} {a : Option Addr} {cap : Nat} {l : List UInt8} {cb os : List Nat} {s : DSt}
theorem DQ.drop (h : DQ w D2 D9 a cap l cb W s os) {os' : List Nat} (hs : ∀ k ∈ os', k ∈ os) : DQ w D2 D9 a cap l cb W s os' := by
  obtain ⟨cb', h3, h4⟩ := h.st
  exact ⟨h.g, ⟨cb', fun k hk => ⟨(h3 k hk).1, fun hm => (h3 k hk).2 (hs k hm)⟩, h4⟩, fun k hk => h.os k (hs k hk), h.d, h.al⟩
set_option maxRecDepth 1000000 in
set_option maxHeartbeats 4000000 in
theorem d_base_loop {Q : Exit → Act → World → Prop} {A Z Y n : Nat} {W0 : World} (x1 x2 x3 x4 x5 x6 : Nat) (c0 c1 c2 c3 c8 c9 c10 c11 c12 c13 c14 c15 c16 c17 c18 c19 c20 c21 c22 c23 c24 c25 c26 c27 c28 c29 c30 c31 c32 c33 c34 c35 c36 c37 c38 c39 c40 c41 c42 c43 c44 c45 c46 c47 c48 c49 c50 c51 c52 c53 c54 c55 c56 c57 c58 c59 c60 c61 c62 c63 c64 c65 c66 c67 c68 c69 c70 c71 c72 c73 c74 c75 c76 c77 c78 c79 c80 c81 c82 c83 c84 c85 c86 c87 c88 c89 c90 c91 c92 c93 c94 c95 c96 c97 c98 c99 c100 c101 c102 c103 c104 c105 c106 c107 c108 c109 c110 c111 c112 c113 c114 c115 c116 c117 c118 c119 c120 c121 c122 c123 c124 c125 c126 c127 c128 c129 c130 c131 c132 c133 c134 c135 c136 c137 c138 c139 c140 c141 c142 c143 c144 c145 c146 c147 c148 c149 c150 c151 : Value) (hn : n ≤ 2147483647)
    (hzy : Z < w.heap.size ∧ Y < w.heap.size) (q0 : DQ w D2 D9 a cap l [] W0 s [A]) (p0 : W0.heap[A]? = some (.cells (pcells [.int .i64 x1, .int .i64 x2, .int .i64 x3, .int .i64 x4, .int .i64 x5, .int .i64 x6, .slice none 0 0, .slice none 0 0, .slice none 0 0] (rz []) [.slice none 0 0, .slice none 0 0, .bool false, .int .i64 0, .int .i64 0, .int .i64 0, .slice none 0 0]) 41 (0, 0)))
    (HQP : ∀ c (a a' : Act) w, a.defers = a'.defers → Q (.panic c) a w → Q (.panic c) a' w)
    (hok : ∀ (xs : List PEl) (s' : DSt) (w' : World) (v : Value) u7 u8 u48 u49 u50 u51 u52 u53 u54 u55 u56 u57 u58 u59 u60 u61 u62 u63 u64 u65 u66 u67 u68 u69 u70 u71 u72 u73 u74, dLoop (dbaseB l) n 0 [] s = (xs, s') → DQ w D2 D9 a cap l [] w' s' [A] → w'.heap[A]? = some (.cells (pcells [.int .i64 x1, .int .i64 x2, .int .i64 x3, .int .i64 x4, .int .i64 x5, .int .i64 x6, v, .slice none 0 0, .slice none 0 0] (rz []) [.slice none 0 0, .slice none 0 0, .bool false, .int .i64 0, .int .i64 0, .int .i64 0, .slice none 0 0]) 41 (0, 0)) → (∀ W', GrewX [D2, D9, A, Z, Y] w' W' → ElsIn W' v xs) → GrewX [D2, D9, A, Z, Y] W0 w' → Q (.exit 0) ⟨(c0 :: c1 :: c2 :: c3 :: pt D9 :: .pointer (some ⟨A, 0, none⟩) :: .int .i64 n :: u7 :: u8 :: c9 :: c10 :: c11 :: c12 :: c13 :: c14 :: c15 :: c16 :: c17 :: c18 :: c19 :: c20 :: c21 :: c22 :: c23 :: c24 :: c25 :: c26 :: c27 :: c28 :: c29 :: c30 :: c31 :: c32 :: c33 :: c34 :: c35 :: c36 :: c37 :: c38 :: c39 :: c40 :: c41 :: c42 :: c43 :: c44 :: c45 :: c46 :: c47 :: u48 :: u49 :: u50 :: u51 :: u52 :: u53 :: u54 :: u55 :: u56 :: u57 :: u58 :: u59 :: u60 :: u61 :: u62 :: u63 :: u64 :: u65 :: u66 :: u67 :: u68 :: u69 :: u70 :: u71 :: u72 :: u73 :: u74 :: c75 :: c76 :: c77 :: c78 :: c79 :: c80 :: c81 :: c82 :: c83 :: c84 :: c85 :: c86 :: c87 :: c88 :: c89 :: c90 :: c91 :: c92 :: c93 :: c94 :: c95 :: c96 :: c97 :: c98 :: c99 :: c100 :: c101 :: c102 :: c103 :: c104 :: c105 :: c106 :: c107 :: c108 :: c109 :: c110 :: c111 :: c112 :: c113 :: c114 :: c115 :: c116 :: c117 :: c118 :: c119 :: c120 :: c121 :: c122 :: c123 :: c124 :: c125 :: c126 :: c127 :: c128 :: c129 :: c130 :: c131 :: c132 :: c133 :: c134 :: c135 :: c136 :: c137 :: c138 :: c139 :: c140 :: c141 :: c142 :: c143 :: c144 :: c145 :: c146 :: c147 :: c148 :: c149 :: c150 :: c151 :: []).toArray, []⟩ w') :
    Code.wp Tryz.prog (.loop dpLoop0) Q ⟨(c0 :: c1 :: c2 :: c3 :: pt D9 :: .pointer (some ⟨A, 0, none⟩) :: .int .i64 n :: .int .i64 0 :: c8 :: c9 :: c10 :: c11 :: c12 :: c13 :: c14 :: c15 :: c16 :: c17 :: c18 :: c19 :: c20 :: c21 :: c22 :: c23 :: c24 :: c25 :: c26 :: c27 :: c28 :: c29 :: c30 :: c31 :: c32 :: c33 :: c34 :: c35 :: c36 :: c37 :: c38 :: c39 :: c40 :: c41 :: c42 :: c43 :: c44 :: c45 :: c46 :: c47 :: c48 :: c49 :: c50 :: c51 :: c52 :: c53 :: c54 :: c55 :: c56 :: c57 :: c58 :: c59 :: c60 :: c61 :: c62 :: c63 :: c64 :: c65 :: c66 :: c67 :: c68 :: c69 :: c70 :: c71 :: c72 :: c73 :: c74 :: c75 :: c76 :: c77 :: c78 :: c79 :: c80 :: c81 :: c82 :: c83 :: c84 :: c85 :: c86 :: c87 :: c88 :: c89 :: c90 :: c91 :: c92 :: c93 :: c94 :: c95 :: c96 :: c97 :: c98 :: c99 :: c100 :: c101 :: c102 :: c103 :: c104 :: c105 :: c106 :: c107 :: c108 :: c109 :: c110 :: c111 :: c112 :: c113 :: c114 :: c115 :: c116 :: c117 :: c118 :: c119 :: c120 :: c121 :: c122 :: c123 :: c124 :: c125 :: c126 :: c127 :: c128 :: c129 :: c130 :: c131 :: c132 :: c133 :: c134 :: c135 :: c136 :: c137 :: c138 :: c139 :: c140 :: c141 :: c142 :: c143 :: c144 :: c145 :: c146 :: c147 :: c148 :: c149 :: c150 :: c151 :: []).toArray, []⟩ W0 := by
  conv => arg 2; arg 1; whnf
  have HOK := Lib.hid hok
  have HQ0 := Lib.hid (And.intro q0 p0)
  have hd0 := And.intro q0.d hzy
  have ha0 := q0.os A (by simp)
  have hgs := q0.g.size
  clear hok q0 p0
  generalize hBB : W0.heap.size = B at *
  have HB := Lib.hid hBB
  have HD := Lib.hid (And.intro hd0 (And.intro ha0 hgs))
  clear hBB hd0 ha0 hgs
  go_loopw [7] (fun i wr => ∃ (k : Nat) (xs : List PEl) (s' : DSt) (ar : Option Addr) (cp : Nat) (os : List Nat), k ≤ n ∧ i = .int .i64 k ∧ xs.length = k ∧ dLoop (dbaseB l) (n - k) k xs s' = dLoop (dbaseB l) n 0 [] s ∧ DQ w D2 D9 a cap l [] wr s' (A :: os) ∧ wr.heap[A]? = some (.cells (pcells [.int .i64 x1, .int .i64 x2, .int .i64 x3, .int .i64 x4, .int .i64 x5, .int .i64 x6, .slice ar k cp, .slice none 0 0, .slice none 0 0] (rz []) [.slice none 0 0, .slice none 0 0, .bool false, .int .i64 0, .int .i64 0, .int .i64 0, .slice none 0 0]) 41 (0, 0)) ∧ wr.ownsRow B 70 5 (.slice ar k cp) k ((xs.map elD).flatMap elRow) ∧ (∀ b, (Value.slice ar k cp).ownBlock = some b → b ∈ os) ∧ GrewX [D2, D9, A, Z, Y] W0 wr) (fun i _ => n - (intOf i).toNat)
  case atStart => exact ⟨0, [], s, none, 0, [], by omega, rfl, rfl, rfl, HQ0.out.1, HQ0.out.2, ⟨rfl, .inl ⟨rfl, rfl⟩⟩, (fun b hb => by cases hb), GrewX.refl _ _⟩
  case round =>
    obtain ⟨W1, hW1⟩ : ∃ W1, W1 = wr := ⟨_, rfl⟩
    subst hW1
    obtain ⟨k, xs, s', ar, cp, os, hk, rfl, hxl, hl, qe, p1, ho, hv, hg1⟩ := hrel
    have HL := Lib.hid hl
    have HQ := Lib.hid qe
    have HP := Lib.hid p1
    have HG := Lib.hid hg1
    have HO := Lib.hid (And.intro ho hv)
    have HXL := Lib.hid hxl
    have BD : Hid (Calls Tryz.prog 15 #[pt D9] W1 fun e w' => e = .returned (.bool s'.bad.isSome) ∧ W1 = w') := Lib.hid (by obtain ⟨cb', -, hd⟩ := qe.st; exact r9_bad hd)
    obtain ⟨-, l9, -, -⟩ : D2 < W1.heap.size ∧ D9 < W1.heap.size ∧ True ∧ True := ⟨by have := qe.g.size; have := qe.d; omega, by have := qe.g.size; have := qe.d; omega, trivial, trivial⟩
    clear hl qe ho hv hxl p1 hg1
    by_cases hlt : k < n
    · cases hbd : s'.bad.isSome with
      | true =>
        have hend : dLoop (dbaseB l) (n - k) k xs s' = (xs, s') := dLoop_bad _ _ _ _ _ hbd
        have HBD := Lib.hid hbd
        clear hbd
        have HRR : Hid (dLoop (dbaseB l) n 0 [] s = (xs, s')) := Lib.hid (HL.out.symm.trans hend)
        clear hend
        go_wp2_with ((go_at_call 15; refine BD.out.mono ?_; rintro e w' ⟨rfl, rfl⟩; simp only [HBD.out]))
        refine HOK.out xs s' W1 (.slice ar k cp) _ _ _ _ _ _ _ _ _ _ _ _ _ _ _ _ _ _ _ _ _ _ _ _ _ _ _ _ _ HRR.out (HQ.out.drop (by simp)) HP.out (fun W' hg => ?_) HG.out
        have h2 := HO.out.1.grewX hg (fun x hx => by have := HD.out; have := HB.out; rcases (by simpa using hx : x = D2 ∨ x = D9 ∨ x = A ∨ x = Z ∨ x = Y) with rfl | rfl | rfl | rfl | rfl <;> omega)
        have hr := h2.caps
        exact ⟨ar, cp, by rw [HXL.out], by rw [HXL.out]; exact hr.1, hr.2, h2.cin⟩
      | false =>
        have HBD := Lib.hid hbd
        have HGO : Hid (∀ x s2, dEl l s' = (x, s2) → dLoop (dbaseB l) (n - (k + 1)) (k + 1) (xs ++ [x]) s2 = dLoop (dbaseB l) n 0 [] s) := Lib.hid fun x s2 hx => by
          rw [← HL.out, show n - k = (n - (k + 1)) + 1 by omega, dLoop_go _ _ _ _ _ HBD.out]
          unfold dbaseB DM.bind DM.pure
          rw [hx]
        clear hbd
        go_wp2_with ((go_at_call 15; refine BD.out.mono ?_; rintro e w' ⟨rfl, rfl⟩; simp only [HBD.out]))
        refine HQ.out.call (fun cb' hd => r17_id hd) (fun V1 v hg he q1 => ?_)
        obtain rfl := he
        have p1 := HQ.out.kept (by simp) HP.out hg
        generalize hs1 : dId l s' = r1 at *
        obtain ⟨i, s1⟩ := r1
        obtain ⟨i0, i1, i2⟩ := i
        simp only [idV] at q1 ⊢
        have q2 := q1.own ((Grew.refl V1).alloc (.cells #[.int .i64 i0, .int .i64 i1, .int .i64 i2, .int .i32 0, .int .i64 0] 70)) (Nat.le_refl _) (by simp [go_sem])
        have p2 := Grew.heap ((Grew.refl V1).alloc (.cells #[.int .i64 i0, .int .i64 i1, .int .i64 i2, .int .i32 0, .int .i64 0] 70)) p1
        have e2 := heap_alloc_new V1 (.cells #[.int .i64 i0, .int .i64 i1, .int .i64 i2, .int .i32 0, .int .i64 0] 70)
        have g2 := (HG.out.trans (hg.mono (by simp))).alloc (.cells #[.int .i64 i0, .int .i64 i1, .int .i64 i2, .int .i32 0, .int .i64 0] 70)
        have g2b := ((GrewX.refl [D2, D9, A, V1.heap.size] W1).trans (hg.mono (by simp))).alloc (.cells #[.int .i64 i0, .int .i64 i1, .int .i64 i2, .int .i32 0, .int .i64 0] 70)
        have hX1 := hg.size
        have hX0 := HG.out.size
        have HQ2 := Lib.hid q2
        have HP2 := Lib.hid (And.intro p2 e2)
        have HG2 := Lib.hid (And.intro g2 g2b)
        have HS1 := Lib.hid hs1
        clear hg q1 p1 q2 p2 e2 g2 g2b hs1
        go_wp2_with fail
        generalize (V1.alloc (.cells #[.int .i64 i0, .int .i64 i1, .int .i64 i2, .int .i32 0, .int .i64 0] 70)) = U2 at *
        generalize hXX : V1.heap.size = X at *
        clear hXX
        refine HQ2.out.call (fun cb' hd => r9_number hd 1114111 (by decide) (by decide)) (fun V2 v hg he q3 => ?_)
        obtain rfl := he
        have p3 := HQ2.out.kept (by simp) HP2.out.1 hg
        have e3 := HQ2.out.kept (by simp) HP2.out.2 hg
        have hc0 := dNum_le l (m := 1114111) (by decide) s1
        generalize hs2 : dNum l 1114111 s1 = r2 at *
        obtain ⟨c, s2⟩ := r2
        simp only at q3 hc0 ⊢
        have hch : IntKind.i32.wrap (c : Int) = c := by rw [IntKind.wrap_i32]; omega
        obtain ⟨k3, m3⟩ := World.own_cell e3 3 _ rfl
        have lX3 : X < V2.heap.size := World.block_lt_of_cell? _ _ k3
        have hXA : A ≠ X := by have := HD.out; have := HB.out; omega
        have p4 : (V2.setCell ⟨X, 3, none⟩ (.int .i32 c)).heap[A]? = some (.cells (pcells [.int .i64 x1, .int .i64 x2, .int .i64 x3, .int .i64 x4, .int .i64 x5, .int .i64 x6, .slice ar k cp, .slice none 0 0, .slice none 0 0] (rz []) [.slice none 0 0, .slice none 0 0, .bool false, .int .i64 0, .int .i64 0, .int .i64 0, .slice none 0 0]) 41 (0, 0)) := by rw [World.block_setCell _ _ _ _ hXA]; exact p3
        have e4 : (V2.setCell ⟨X, 3, none⟩ (.int .i32 c)).heap[X]? = some (.cells #[.int .i64 i0, .int .i64 i1, .int .i64 i2, .int .i32 c, .int .i64 0] 70 (0, 0)) := World.own_set2 e3 3 _ _ rfl
        have HQ4 := Lib.hid (q3.set (X := X) (by simp) 3 (.int .i32 c))
        have HG4 := Lib.hid (And.intro ((HG2.out.1.trans (hg.mono (by simp))).set (p := ⟨X, 3, none⟩) (.inr (by show W0.heap.size ≤ X; omega)) (.int .i32 c)) ((HG2.out.2.trans (hg.mono (by simp))).set (p := ⟨X, 3, none⟩) (.inl (by simp)) (.int .i32 c)))
        have k4 : ∀ o, ((V2.setCell ⟨X, 3, none⟩ (.int .i32 c)).alloc o).heap[A]? = some (.cells (pcells [.int .i64 x1, .int .i64 x2, .int .i64 x3, .int .i64 x4, .int .i64 x5, .int .i64 x6, .slice ar k cp, .slice none 0 0, .slice none 0 0] (rz []) [.slice none 0 0, .slice none 0 0, .bool false, .int .i64 0, .int .i64 0, .int .i64 0, .slice none 0 0]) 41 (0, 0)) := fun o => Grew.heap ((Grew.refl _).alloc o) p4
        have k6 := (World.own_cell p4 6 _ (pc_get_head 6 (by simp))).1
        have kX : (V2.setCell ⟨X, 3, none⟩ (.int .i32 c)).cellsAt ⟨X, 0, none⟩ 5 = some [.int .i64 i0, .int .i64 i1, .int .i64 i2, .int .i32 c, .int .i64 0] := World.cellsAt_block e4 5 rfl
        have lA4 : A < (V2.setCell ⟨X, 3, none⟩ (.int .i32 c)).heap.size := World.block_lt_of_cell? _ _ k6
        have lX4 := (Array.getElem?_eq_some_iff.1 e4).1
        have HK4 := Lib.hid k4
        have hel : dEl l s' = ((⟨⟨i0, i1, i2⟩, c⟩ : PEl), s2) := dEl_is HS1.out hs2
        have HL4 := Lib.hid (HGO.out _ _ hel)
        have HROW : Hid ((V2.setCell ⟨X, 3, none⟩ (.int .i32 c)).ownsRow B 70 5 (.slice ar k cp) k ((xs.map elD).flatMap elRow)) := Lib.hid (HO.out.1.keep fun b hb => by
          have h1 := HO.out.1.lt b hb
          have := HD.out
          exact HG4.out.2.block b h1.2 (by simp; omega))
        have hneA : ∀ b, (Value.slice ar k cp).ownBlock = some b → B ≤ b := fun b hb => (HO.out.1.lt b hb).1
        have HNE := Lib.hid hneA
        have hbb : B ≤ (V2.setCell ⟨X, 3, none⟩ (.int .i32 c)).heap.size := by have := HG4.out.1.size; have := HB.out; omega
        clear hg q3 p3 e3 p4 e4 k4 hs2 hel hneA HQ2 HP2 HG2 HS1 HGO hX1 hc0
        go_upto_region 16 with fail
        generalize (V2.setCell ⟨X, 3, none⟩ (.int .i32 c)) = U4 at *
        have hhA : A < B := by have := HD.out; omega
        go_wp2_with (at_builtin; go_loud (refine wpList_app (by rfl) (.tmp 70) (.tmp 72) 26 (by rfl) elEl B _ k ((xs.map elD).flatMap elRow) (by rfl) (HROW.out.grew (by exact by repeat (first | with_reducible exact HG.out | with_reducible exact Grew.refl _ | with_reducible assumption | with_reducible apply Grew.plus | with_reducible apply Grew.drewN | with_reducible apply Grew.drew | with_reducible apply Grew.alloc | with_reducible refine Grew.setCell ?_ (by simp [go_sem]; try omega) _))) _ 1 1 #[.int .i64 i0, .int .i64 i1, .int .i64 i2, .int .i32 c, .int .i64 0] 70 (by rfl) (heap_alloc_at _ _ _ rfl) (by rfl) (by intro u hu; simp at hu; rcases hu with rfl | rfl | rfl | rfl | rfl <;> rfl) (by omega) (by omega) (by unfold maxLen; omega) _ (grew_bare _) (Nat.zero_le _) (by rw [alloc_size1]; omega) ?_); intro g c2 w2 hg2 hown2 hkeep2 hsz2 hat2; have pA := (hkeep2 A (by rw [alloc_size1]; omega) (fun e => by have := HNE.out A e.symm; omega)).trans (HK4.out _); obtain ⟨cA, mA⟩ := World.own_cell pA 6 _ (pc_get_head 6 (by simp)); have lA2 := World.block_lt_of_cell? _ _ cA; have HPA := Lib.hid pA; have HO9 := Lib.hid hown2; have HG9 := Lib.hid (And.intro hg2 (And.intro hkeep2 hsz2)); have HAT := Lib.hid hat2; clear pA hown2 hg2 hkeep2 hat2 hsz2)
        obtain ⟨q9, hx9⟩ := HQ4.out.row (.cells #[.int .i64 i0, .int .i64 i1, .int .i64 i2, .int .i32 c, .int .i64 0] 70) (v := .slice ar k cp) (fun b hb => List.mem_cons_of_mem _ (List.mem_cons_of_mem _ (HO.out.2 b hb))) HG9.out HAT.out HO9.out
        have hgB := (HO9.out.lt g rfl).1
        have q10 := (q9.set (X := A) (by simp) 6 (.slice (some ⟨g, 0, none⟩) (k + 1) c2)).drop (os' := A :: g :: os) (fun j hj => by
          rcases List.mem_cons.1 hj with rfl | hj
          · simp
          · rcases List.mem_cons.1 hj with rfl | hj
            · simp
            · exact List.mem_cons_of_mem _ (List.mem_cons_of_mem _ (List.mem_cons_of_mem _ hj)))
        have gW := (((HG4.out.1.mono (ks' := [D2, D9, A, Z, Y] ++ (Value.slice ar k cp).ownBlock.toList) (fun x hx => List.mem_append_left _ hx)).trans (hx9.mono (fun x hx => List.mem_append_right _ hx))).fresh (ks' := [D2, D9, A, Z, Y]) (fun x hx => by
          rcases List.mem_append.1 hx with h | h
          · exact .inl h
          · exact .inr (by have := HNE.out x (Option.mem_toList.1 h); have := HB.out; omega))).set (p := ⟨A, 6, none⟩) (.inl (by simp)) (.slice (some ⟨g, 0, none⟩) (k + 1) c2)
        have HXL2 := HXL.out
        exact ⟨⟨k + 1, xs ++ [(⟨⟨i0, i1, i2⟩, c⟩ : PEl)], s2, some ⟨g, 0, none⟩, c2, g :: os, by omega, rfl, by simp [HXL2], HL4.out, q10, World.own_set2 HPA.out 6 _ _ (pc_head 6 (by simp) _), by rw [List.map_append, List.flatMap_append]; exact HO9.out.setOther (i := 6) (by simp [Value.ownBlock]; omega) _, fun b hb => by cases hb; simp, gW⟩, by show n - ((k : Int) + 1).toNat < n - (k : Int).toNat; omega⟩
    · have hkn : k = n := by omega
      subst hkn
      have hend : dLoop (dbaseB l) (k - k) k xs s' = (xs, s') := by rw [Nat.sub_self]; rfl
      have HRR : Hid (dLoop (dbaseB l) k 0 [] s = (xs, s')) := Lib.hid (HL.out.symm.trans hend)
      clear hend
      go_wp2_with fail
      refine HOK.out xs s' W1 (.slice ar k cp) _ _ _ _ _ _ _ _ _ _ _ _ _ _ _ _ _ _ _ _ _ _ _ _ _ _ _ _ _ HRR.out (HQ.out.drop (by simp)) HP.out (fun W' hg => ?_) HG.out
      have h2 := HO.out.1.grewX hg (fun x hx => by have := HD.out; have := HB.out; rcases (by simpa using hx : x = D2 ∨ x = D9 ∨ x = A ∨ x = Z ∨ x = Y) with rfl | rfl | rfl | rfl | rfl <;> omega)
      have hr := h2.caps
      exact ⟨ar, cp, by rw [HXL.out], by rw [HXL.out]; exact hr.1, hr.2, h2.cin⟩
end
end Go.Proofs.YtnhmekdnfinmiaaGreatDoor
/- Walks: the document's Parts: the loop over the parcels (printed by wip/gen_rdq.py). -/
namespace Go.Par
def doutB (l : List UInt8) (_ : Nat) (xs : List POut) : DM (List POut) := (dOut1 l).bind fun a => DM.pure (xs ++ [a])
theorem dOut_eq (l : List UInt8) : dOut l = (dCount l 2).bind fun n => dLoop (doutB l) n 0 [] := rfl
theorem dOut1_is {l : List UInt8} {s s1 s2 : DSt} {t : Nat} {b : List UInt8} (h1 : dNum l most s = (t, s1)) (h2 : dText l s1 = (b, s2)) : dOut1 l s = (⟨t, b⟩, s2) := (dbind_is h1).trans (dbind_is h2)
end Go.Par
namespace Go.Proofs.YtnhmekdnfinmiaaGreatDoor
open Go.RowKit Go.Par
set_option linter.unusedSimpArgs false
set_option linter.unusedVariables false
noncomputable def dpLoop2 : Code := (((Tryz.f5.body.map loopsOf).getD [])[1]?).getD .skip
section
variable {w w' W W' : World} {D2 D9 : Nat} {a : Option Addr} {cap : Nat} {l : List UInt8} {cb os : List Nat} {s : DSt}
set_option maxRecDepth 1000000 in
set_option maxHeartbeats 4000000 in
theorem d_out_loop {Q : Exit → Act → World → Prop} {A Z Y n : Nat} {W0 : World} (x1 x2 x3 x4 self x6 : Nat) (zs : List Nat) (vb va vh vd vu vf ve vr vn : Value) (c0 c1 c2 c3 c7 c8 c10 c11 c12 c13 c14 c15 c16 c17 c18 c19 c20 c21 c22 c23 c24 c25 c26 c27 c28 c29 c30 c31 c32 c33 c34 c35 c36 c37 c38 c39 c40 c41 c42 c43 c44 c45 c46 c47 c48 c49 c50 c51 c52 c53 c54 c55 c56 c57 c58 c59 c60 c61 c62 c63 c64 c65 c66 c67 c68 c69 c70 c71 c72 c73 c74 c75 c76 c77 c78 c79 c80 c81 c82 c83 c84 c85 c86 c87 c88 c89 c90 c91 c92 c93 c94 c95 c96 c97 c98 c99 c100 c101 c102 c103 c104 c105 c106 c107 c108 c109 c110 c111 c112 c113 c114 c115 c116 c117 c118 c119 c120 c121 c122 c123 c124 c125 c126 c127 c128 c129 c130 c131 c132 c133 c134 c135 c136 c137 c138 c139 c140 c141 c142 c143 c144 c145 c146 c147 c148 c149 c150 c151 : Value) (hn : n ≤ 2147483647) (HZ : Hid (zs.length = 144))
    (hzy : Z < w.heap.size ∧ Y < w.heap.size) (q0 : DQ w D2 D9 a cap l [] W0 s [A]) (p0 : W0.heap[A]? = some (.cells (pcells [.int .i64 x1, .int .i64 x2, .int .i64 x3, .int .i64 x4, .int .i64 self, .int .i64 x6, vb, va, vh] zs [vd, vu, vf, ve, vr, vn, .slice none 0 0]) 41 (0, 0)))
    (HQP : ∀ c (a a' : Act) w, a.defers = a'.defers → Q (.panic c) a w → Q (.panic c) a' w)
    (hok : ∀ (xs : List POut) (s' : DSt) (w' : World) (v : Value) u9 u10 u115 u116 u117 u118 u119 u120 u121 u122 u123 u124 u125 u126 u127 u128 u129 u130 u131 u132 u133 u134 u135 u136 u137 u138 u139 u140, dLoop (doutB l) n 0 [] s = (xs, s') → DQ w D2 D9 a cap l [] w' s' [A] → w'.heap[A]? = some (.cells (pcells [.int .i64 x1, .int .i64 x2, .int .i64 x3, .int .i64 x4, .int .i64 self, .int .i64 x6, vb, va, vh] zs [vd, vu, vf, ve, vr, vn, v]) 41 (0, 0)) → (∀ W', GrewX [D2, D9, A, Z, Y] w' W' → OutsIn W' v self xs) → GrewX [D2, D9, A, Z, Y] W0 w' → Q (.exit 2) ⟨(c0 :: c1 :: c2 :: c3 :: pt D9 :: .pointer (some ⟨A, 0, none⟩) :: .int .i64 n :: c7 :: c8 :: u9 :: u10 :: c11 :: c12 :: c13 :: c14 :: c15 :: c16 :: c17 :: c18 :: c19 :: c20 :: c21 :: c22 :: c23 :: c24 :: c25 :: c26 :: c27 :: c28 :: c29 :: c30 :: c31 :: c32 :: c33 :: c34 :: c35 :: c36 :: c37 :: c38 :: c39 :: c40 :: c41 :: c42 :: c43 :: c44 :: c45 :: c46 :: c47 :: c48 :: c49 :: c50 :: c51 :: c52 :: c53 :: c54 :: c55 :: c56 :: c57 :: c58 :: c59 :: c60 :: c61 :: c62 :: c63 :: c64 :: c65 :: c66 :: c67 :: c68 :: c69 :: c70 :: c71 :: c72 :: c73 :: c74 :: c75 :: c76 :: c77 :: c78 :: c79 :: c80 :: c81 :: c82 :: c83 :: c84 :: c85 :: c86 :: c87 :: c88 :: c89 :: c90 :: c91 :: c92 :: c93 :: c94 :: c95 :: c96 :: c97 :: c98 :: c99 :: c100 :: c101 :: c102 :: c103 :: c104 :: c105 :: c106 :: c107 :: c108 :: c109 :: c110 :: c111 :: c112 :: c113 :: c114 :: u115 :: u116 :: u117 :: u118 :: u119 :: u120 :: u121 :: u122 :: u123 :: u124 :: u125 :: u126 :: u127 :: u128 :: u129 :: u130 :: u131 :: u132 :: u133 :: u134 :: u135 :: u136 :: u137 :: u138 :: u139 :: u140 :: c141 :: c142 :: c143 :: c144 :: c145 :: c146 :: c147 :: c148 :: c149 :: c150 :: c151 :: []).toArray, []⟩ w') :
    Code.wp Tryz.prog (.loop dpLoop2) Q ⟨(c0 :: c1 :: c2 :: c3 :: pt D9 :: .pointer (some ⟨A, 0, none⟩) :: .int .i64 n :: c7 :: c8 :: .int .i64 0 :: c10 :: c11 :: c12 :: c13 :: c14 :: c15 :: c16 :: c17 :: c18 :: c19 :: c20 :: c21 :: c22 :: c23 :: c24 :: c25 :: c26 :: c27 :: c28 :: c29 :: c30 :: c31 :: c32 :: c33 :: c34 :: c35 :: c36 :: c37 :: c38 :: c39 :: c40 :: c41 :: c42 :: c43 :: c44 :: c45 :: c46 :: c47 :: c48 :: c49 :: c50 :: c51 :: c52 :: c53 :: c54 :: c55 :: c56 :: c57 :: c58 :: c59 :: c60 :: c61 :: c62 :: c63 :: c64 :: c65 :: c66 :: c67 :: c68 :: c69 :: c70 :: c71 :: c72 :: c73 :: c74 :: c75 :: c76 :: c77 :: c78 :: c79 :: c80 :: c81 :: c82 :: c83 :: c84 :: c85 :: c86 :: c87 :: c88 :: c89 :: c90 :: c91 :: c92 :: c93 :: c94 :: c95 :: c96 :: c97 :: c98 :: c99 :: c100 :: c101 :: c102 :: c103 :: c104 :: c105 :: c106 :: c107 :: c108 :: c109 :: c110 :: c111 :: c112 :: c113 :: c114 :: c115 :: c116 :: c117 :: c118 :: c119 :: c120 :: c121 :: c122 :: c123 :: c124 :: c125 :: c126 :: c127 :: c128 :: c129 :: c130 :: c131 :: c132 :: c133 :: c134 :: c135 :: c136 :: c137 :: c138 :: c139 :: c140 :: c141 :: c142 :: c143 :: c144 :: c145 :: c146 :: c147 :: c148 :: c149 :: c150 :: c151 :: []).toArray, []⟩ W0 := by
  conv => arg 2; arg 1; whnf
  have HOK := Lib.hid hok
  have HQ0 := Lib.hid (And.intro q0 p0)
  have hd0 := And.intro q0.d hzy
  have ha0 := q0.os A (by simp)
  have hgs := q0.g.size
  clear hok q0 p0
  generalize hBB : W0.heap.size = B at *
  have HB := Lib.hid hBB
  have HD := Lib.hid (And.intro hd0 (And.intro ha0 hgs))
  clear hBB hd0 ha0 hgs
  go_loopw [9] (fun i wr => ∃ (k : Nat) (xs : List POut) (s' : DSt) (ar : Option Addr) (cp : Nat) (os : List Nat) (ovs : List OV), k ≤ n ∧ i = .int .i64 k ∧ xs.length = k ∧ dLoop (doutB l) (n - k) k xs s' = dLoop (doutB l) n 0 [] s ∧ DQ w D2 D9 a cap l [] wr s' (A :: os) ∧ wr.heap[A]? = some (.cells (pcells [.int .i64 x1, .int .i64 x2, .int .i64 x3, .int .i64 x4, .int .i64 self, .int .i64 x6, vb, va, vh] zs [vd, vu, vf, ve, vr, vn, .slice ar k cp]) 41 (0, 0)) ∧ wr.ownsRow B 75 4 (.slice ar k cp) k (ovs.flatMap (ovRow self)) ∧ (∀ b, (Value.slice ar k cp).ownBlock = some b → b ∈ os) ∧ ovs.map (fun o => (⟨o.dst, o.bytes⟩ : POut)) = xs ∧ OvsIn wr B (Value.slice ar k cp).ownBlock ovs ∧ GrewX [D2, D9, A, Z, Y] W0 wr) (fun i _ => n - (intOf i).toNat)
  case atStart => exact ⟨0, [], s, none, 0, [], [], by omega, rfl, rfl, rfl, HQ0.out.1, HQ0.out.2, ⟨rfl, .inl ⟨rfl, rfl⟩⟩, (fun b hb => by cases hb), rfl, (fun o ho => by cases ho), GrewX.refl _ _⟩
  case round =>
    obtain ⟨W1, hW1⟩ : ∃ W1, W1 = wr := ⟨_, rfl⟩
    subst hW1
    obtain ⟨k, xs, s', ar, cp, os, ovs, hk, rfl, hxl, hl, qe, p1, ho, hv, hov, hovs, hg1⟩ := hrel
    have HL := Lib.hid hl
    have HQ := Lib.hid qe
    have HP := Lib.hid p1
    have HG := Lib.hid hg1
    have HO := Lib.hid (And.intro ho hv)
    have HOV := Lib.hid (And.intro hov hovs)
    have HXL := Lib.hid hxl
    have BD : Hid (Calls Tryz.prog 15 #[pt D9] W1 fun e w' => e = .returned (.bool s'.bad.isSome) ∧ W1 = w') := Lib.hid (by obtain ⟨cb', -, hd⟩ := qe.st; exact r9_bad hd)
    have l9 : D9 < W1.heap.size := by have := qe.g.size; have := qe.d; omega
    clear hl qe ho hv hxl p1 hg1 hov hovs
    by_cases hlt : k < n
    · cases hbd : s'.bad.isSome with
      | true =>
        have hend : dLoop (doutB l) (n - k) k xs s' = (xs, s') := dLoop_bad _ _ _ _ _ hbd
        have HBD := Lib.hid hbd
        clear hbd
        have HRR : Hid (dLoop (doutB l) n 0 [] s = (xs, s')) := Lib.hid (HL.out.symm.trans hend)
        clear hend
        go_wp2_with ((go_at_call 15; refine BD.out.mono ?_; rintro e w' ⟨rfl, rfl⟩; simp only [HBD.out]))
        refine HOK.out xs s' W1 (.slice ar k cp) _ _ _ _ _ _ _ _ _ _ _ _ _ _ _ _ _ _ _ _ _ _ _ _ _ _ _ _ HRR.out (HQ.out.drop (by simp)) HP.out (fun W' hg => ?_) HG.out
        have hks : ∀ x ∈ [D2, D9, A, Z, Y], x < B := fun x hx => by have := HD.out; have := HB.out; rcases (by simpa using hx : x = D2 ∨ x = D9 ∨ x = A ∨ x = Z ∨ x = Y) with rfl | rfl | rfl | rfl | rfl <;> omega
        have h2 := HO.out.1.grewX hg hks
        have hr := h2.caps
        have hov := HOV.out.2.grewX hg (fun x hx => .inl (hks x hx)) (ne' := (Value.slice ar k cp).ownBlock) (fun b _ _ h => h)
        exact ⟨ar, cp, ovs, by rw [HXL.out], by rw [HXL.out]; exact hr.1, hr.2, h2.cin, fun o ho => by obtain ⟨h1, h2, h3, h4⟩ := hov o ho; exact ⟨h1, h2, h3, fun b hb => ⟨Nat.zero_le _, (h4 b hb).2.1, by simp⟩⟩, HOV.out.1⟩
      | false =>
        have HBD := Lib.hid hbd
        have HGO : Hid (∀ x s2, dOut1 l s' = (x, s2) → dLoop (doutB l) (n - (k + 1)) (k + 1) (xs ++ [x]) s2 = dLoop (doutB l) n 0 [] s) := Lib.hid fun x s2 hx => by
          rw [← HL.out, show n - k = (n - (k + 1)) + 1 by omega, dLoop_go _ _ _ _ _ HBD.out]
          unfold doutB DM.bind DM.pure
          rw [hx]
        clear hbd
        have kA := (World.own_cell HP.out 4 _ (pc_get_head 4 (by simp))).1
        have lA1 : A < W1.heap.size := World.block_lt_of_cell? _ _ kA
        have hAB : A < B := by have := HD.out; omega
        have hBW : B ≤ W1.heap.size := by have := HG.out.size; have := HB.out; omega
        have c4 : ∀ W : World, W.heap[A]? = some (.cells (pcells [.int .i64 x1, .int .i64 x2, .int .i64 x3, .int .i64 x4, .int .i64 self, .int .i64 x6, vb, va, vh] zs [vd, vu, vf, ve, vr, vn, .slice ar k cp]) 41 (0, 0)) → W.cell? ⟨A, 4, none⟩ = some (.int .i64 self) := fun W h => (World.own_cell h 4 _ (pc_get_head 4 (by simp))).1
        have HC4 := Lib.hid c4
        clear c4
        go_upto_region 29 with (go_at_call 15; refine BD.out.mono ?_; rintro e w' ⟨rfl, rfl⟩; simp only [HBD.out])
        refine wp_region_held_drew (S := fun w' => w'.cell? ⟨A, 4, none⟩ = some (.int .i64 self)) (by kernel_rfl) (HC4.out _ (Grew.heap (show Grew W1 W1.drew by exact by repeat (first | with_reducible exact HG.out | with_reducible exact Grew.refl _ | with_reducible assumption | with_reducible apply Grew.plus | with_reducible apply Grew.drewN | with_reducible apply Grew.drew | with_reducible apply Grew.alloc | with_reducible refine Grew.setCell ?_ (by simp [go_sem]; try omega) _)) HP.out)) (fun hHeld => ?_)
        refine wpAnyH_take (i := 0) (v := ?_) rfl (by kernel_rfl) (by kernel_rfl) (by kernel_rfl) (by first | exact fun _ _ _ h => h | exact fun _ _ _ h => HQP _ _ _ _ (by rfl) h) (Or.inl ⟨by rfl, ?_⟩) (by assumption) ?_
        rotate_left 1
        · (intro w hSw; (try dsimp only at hSw); go_simp; (try with_reducible rfl))
        (try simp only [List.getElem_toArray, List.getElem_cons_zero, List.getElem_cons_succ])
        (try simp only [Act.put, List.setIfInBounds_toArray, List.set_cons_zero, List.set_cons_succ])
        refine wpAnyH_take (i := 1) (v := ?_) rfl (by kernel_rfl) (by kernel_rfl) (by kernel_rfl) (by first | exact fun _ _ _ h => h | exact fun _ _ _ h => HQP _ _ _ _ (by rfl) h) (Or.inl ⟨by rfl, ?_⟩) (by assumption) ?_
        rotate_left 1
        · (intro w hSw; (try dsimp only at hSw); go_simp; (try with_reducible rfl))
        (try simp only [List.getElem_toArray, List.getElem_cons_zero, List.getElem_cons_succ])
        (try simp only [Act.put, List.setIfInBounds_toArray, List.set_cons_zero, List.set_cons_succ])
        refine wpAnyH_take (i := 2) (v := ?_) rfl (by kernel_rfl) (by kernel_rfl) (by kernel_rfl) (by first | exact fun _ _ _ h => h | exact fun _ _ _ h => HQP _ _ _ _ (by rfl) h) (Or.inl ⟨by rfl, ?_⟩) (by assumption) ?_
        rotate_left 1
        · (intro w hSw; (try dsimp only at hSw); go_simp; (try with_reducible rfl))
        (try simp only [List.getElem_toArray, List.getElem_cons_zero, List.getElem_cons_succ])
        (try simp only [Act.put, List.setIfInBounds_toArray, List.set_cons_zero, List.set_cons_succ])
        refine wpAnyH_ready (rs := [3, 5]) (by kernel_rfl) (by simp) ?_
        refine AllReadyH.cons rfl (fun K hK => ?gx) (AllReadyH.cons rfl (fun K hK => ?gy) AllReadyH.nil)
        case' gx =>
          go_simp
          go_at_call 13
          refine (HQ.out.grew (by exact by repeat (first | with_reducible exact HG.out | with_reducible exact Grew.refl _ | with_reducible assumption | with_reducible apply Grew.plus | with_reducible apply Grew.drewN | with_reducible apply Grew.drew | with_reducible apply Grew.alloc | with_reducible refine Grew.setCell ?_ (by simp [go_sem]; try omega) _))).call (fun cb' hd => r17_n hd) (fun V9 v hg he q9 => ?_)
          obtain rfl := he
          have p9 := (HQ.out.grew (show Grew W1 W1.drew by exact by repeat (first | with_reducible exact HG.out | with_reducible exact Grew.refl _ | with_reducible assumption | with_reducible apply Grew.plus | with_reducible apply Grew.drewN | with_reducible apply Grew.drew | with_reducible apply Grew.alloc | with_reducible refine Grew.setCell ?_ (by simp [go_sem]; try omega) _))).kept (X := A) (by simp) HP.out hg
          have hg9 : GrewX [D2, D9, A, Z, Y] W1 V9 := (GrewX.of_grew (show Grew W1 W1.drew by exact by repeat (first | with_reducible exact HG.out | with_reducible exact Grew.refl _ | with_reducible assumption | with_reducible apply Grew.plus | with_reducible apply Grew.drewN | with_reducible apply Grew.drew | with_reducible apply Grew.alloc | with_reducible refine Grew.setCell ?_ (by simp [go_sem]; try omega) _))).trans (hg.mono (by simp))
          generalize hs9 : dNum l most s' = r9 at *
          obtain ⟨dst, s9⟩ := r9
          simp only at q9 ⊢
          refine hK.out _ _ (HC4.out _ p9) (fun hHeld2 => ?_)
          clear hK K
          (try simp only [Act.put, List.setIfInBounds_toArray, List.set_cons_zero, List.set_cons_succ])
          have HPA := Lib.hid (fun o => Grew.heap ((Grew.refl V9).alloc o) p9)
          have HX1 : W1.heap.size ≤ V9.heap.size := hg9.size
          have HS9 := Lib.hid hs9
          have HQ5 := Lib.hid (q9.own (X := V9.heap.size) ((Grew.refl V9).alloc (.cells #[.int .i64 0, .int .i64 self, .int .i64 dst, .slice none 0 0] 75)) (Nat.le_refl _) (by simp [go_sem]))
          have HG5 := Lib.hid (show GrewX [D2, D9, A, Z, Y] W1 (V9.alloc (.cells #[.int .i64 0, .int .i64 self, .int .i64 dst, .slice none 0 0] 75)) from hg9.alloc _)
          have HX5 := Lib.hid (heap_alloc_new V9 (.cells #[.int .i64 0, .int .i64 self, .int .i64 dst, .slice none 0 0] 75))
          clear hg q9 p9 hg9 hs9 kA
          refine wpAnyH_take (i := 4) (v := ?_) rfl (by kernel_rfl) (by kernel_rfl) (by kernel_rfl) (by first | exact fun _ _ _ h => h | exact fun _ _ _ h => HQP _ _ _ _ (by rfl) h) (Or.inl ⟨by rfl, ?_⟩) (by assumption) ?_
          rotate_left 1
          · (intro w hSw; (try dsimp only at hSw); go_simp; (try with_reducible rfl))
          (try simp only [List.getElem_toArray, List.getElem_cons_zero, List.getElem_cons_succ])
          (try simp only [Act.put, List.setIfInBounds_toArray, List.set_cons_zero, List.set_cons_succ])
          refine wpAnyH_ready (rs := [5]) (by kernel_rfl) (by simp) ?_
          refine AllReadyH.cons rfl (fun K hK => ?_) AllReadyH.nil
          go_simp
          refine hK.out _ _ (HC4.out _ (HPA.out _)) (fun hHeld4 => ?_)
          clear hK K
          (try simp only [Act.put, List.setIfInBounds_toArray, List.set_cons_zero, List.set_cons_succ])
          refine wpAnyH_ready (rs := [6]) (by kernel_rfl) (by simp) ?_
          refine AllReadyH.cons rfl (fun K hK => ?_) AllReadyH.nil
          go_simp
          have HA5 := Lib.hid (HPA.out (.cells #[.int .i64 0, .int .i64 self, .int .i64 dst, .slice none 0 0] 75))
          refine hK.out _ _ (HC4.out _ (HPA.out _)) (fun _ => ?_)
          clear hK K
          (try simp only [Act.put, List.setIfInBounds_toArray, List.set_cons_zero, List.set_cons_succ])
          clear hHeld hHeld2 hHeld4 HPA
          generalize (V9.alloc (.cells #[.int .i64 0, .int .i64 self, .int .i64 dst, .slice none 0 0] 75)) = W5 at *
          generalize V9.heap.size = X at *
        case' gy =>
          go_simp
          have hq0 := HQ.out.own (X := W1.heap.size) (((Grew.refl W1).alloc (.cells #[.int .i64 0, .int .i64 0, .int .i64 0, .slice none 0 0] 75)).drew) (Nat.le_refl _) (by simp [go_sem])
          have hx0 : (W1.alloc (.cells #[.int .i64 0, .int .i64 0, .int .i64 0, .slice none 0 0] 75)).drew.heap[W1.heap.size]? = some (.cells #[.int .i64 0, .int .i64 0, .int .i64 0, .slice none 0 0] 75 (0, 0)) := by rw [heap_drew0]; exact heap_alloc_at _ _ _ rfl
          have ha0 := Grew.heap (((Grew.refl W1).alloc (.cells #[.int .i64 0, .int .i64 0, .int .i64 0, .slice none 0 0] 75)).drew) HP.out
          have hgz : GrewX [D2, D9, A, Z, Y] W1 (W1.alloc (.cells #[.int .i64 0, .int .i64 0, .int .i64 0, .slice none 0 0] 75)).drew := GrewX.of_grew (((Grew.refl W1).alloc (.cells #[.int .i64 0, .int .i64 0, .int .i64 0, .slice none 0 0] 75)).drew)
          refine hK.out _ _ (HC4.out _ ha0) (fun hHeld4 => ?_)
          clear hK K
          (try simp only [Act.put, List.setIfInBounds_toArray, List.set_cons_zero, List.set_cons_succ])
          refine wpAnyH_ready (rs := [3]) (by kernel_rfl) (by simp) ?_
          refine AllReadyH.cons rfl (fun K hK => ?_) AllReadyH.nil
          go_simp
          go_at_call 13
          refine hq0.call (fun cb' hd => r17_n hd) (fun V9 v hg he q9 => ?_)
          obtain rfl := he
          have p9 := hq0.kept (X := A) (by simp) ha0 hg
          have e9 := hq0.kept (X := W1.heap.size) (by simp) hx0 hg
          have hg9 : GrewX [D2, D9, A, Z, Y] W1 V9 := hgz.trans (hg.mono (by simp))
          generalize hs9 : dNum l most s' = r9 at *
          obtain ⟨dst, s9⟩ := r9
          simp only at q9 ⊢
          have HX1 : W1.heap.size ≤ W1.heap.size := Nat.le_refl _
          generalize hXX : W1.heap.size = X at *
          have hXA : A ≠ X := by omega
          obtain ⟨y0, z0⟩ := World.own_cell e9 0 _ rfl
          obtain ⟨y1, z1⟩ := World.own_cell e9 1 _ rfl
          obtain ⟨y2, z2⟩ := World.own_cell e9 2 _ rfl
          obtain ⟨y3, z3⟩ := World.own_cell e9 3 _ rfl
          have lX9 : X < V9.heap.size := World.block_lt_of_cell? V9 _ y0
          have HS9 := Lib.hid hs9
          have hA5 : ((((V9.setCell ⟨X, 0, none⟩ (.int .i64 0)).setCell ⟨X, 1, none⟩ (.int .i64 self)).setCell ⟨X, 2, none⟩ (.int .i64 dst)).setCell ⟨X, 3, none⟩ (.slice none 0 0)).heap[A]? = some (.cells (pcells [.int .i64 x1, .int .i64 x2, .int .i64 x3, .int .i64 x4, .int .i64 self, .int .i64 x6, vb, va, vh] zs [vd, vu, vf, ve, vr, vn, .slice ar k cp]) 41 (0, 0)) := by
            rw [World.block_setCell _ _ _ _ hXA, World.block_setCell _ _ _ _ hXA, World.block_setCell _ _ _ _ hXA, World.block_setCell _ _ _ _ hXA]; exact p9
          have HA5 := Lib.hid hA5
          have HX5 := Lib.hid (show ((((V9.setCell ⟨X, 0, none⟩ (.int .i64 0)).setCell ⟨X, 1, none⟩ (.int .i64 self)).setCell ⟨X, 2, none⟩ (.int .i64 dst)).setCell ⟨X, 3, none⟩ (.slice none 0 0)).heap[X]? = some (.cells #[.int .i64 0, .int .i64 self, .int .i64 dst, .slice none 0 0] 75 (0, 0)) from World.own_set2 (World.own_set2 (World.own_set2 (World.own_set2 e9 0 _ _ rfl) 1 _ _ rfl) 2 _ _ rfl) 3 _ _ rfl)
          have HQ5 := Lib.hid ((((q9.set (X := X) (by simp) 0 (.int .i64 0)).set (X := X) (by simp) 1 (.int .i64 self)).set (X := X) (by simp) 2 (.int .i64 dst)).set (X := X) (by simp) 3 (.slice none 0 0))
          have hX0 : W1.heap.size ≤ X := by omega
          have HG5 := Lib.hid ((((hg9.set (p := ⟨X, 0, none⟩) (.inr hX0) (.int .i64 0)).set (p := ⟨X, 1, none⟩) (.inr hX0) (.int .i64 self)).set (p := ⟨X, 2, none⟩) (.inr hX0) (.int .i64 dst)).set (p := ⟨X, 3, none⟩) (.inr hX0) (.slice none 0 0))
          have hS9 := HC4.out _ p9
          have hS5 := HC4.out _ hA5
          clear hg q9 p9 e9 hg9 hs9 kA hq0 hx0 ha0 hgz hA5 hX0
          refine hK.out _ _ hS9 (fun hHeld2 => ?_)
          clear hK K
          (try simp only [Act.put, List.setIfInBounds_toArray, List.set_cons_zero, List.set_cons_succ])
          refine wpAnyH_ready (rs := [4]) (by kernel_rfl) (by simp) ?_
          refine AllReadyH.cons rfl (fun K hK => ?_) AllReadyH.nil
          go_simp
          refine hK.out _ _ hHeld2 (fun hHeld6 => ?_)
          clear hK K
          (try simp only [Act.put, List.setIfInBounds_toArray, List.set_cons_zero, List.set_cons_succ])
          refine wpAnyH_ready (rs := [6]) (by kernel_rfl) (by simp) ?_
          refine AllReadyH.cons rfl (fun K hK => ?_) AllReadyH.nil
          go_simp
          refine hK.out _ _ hS5 (fun _ => ?_)
          clear hK K
          (try simp only [Act.put, List.setIfInBounds_toArray, List.set_cons_zero, List.set_cons_succ])
          clear hS5 hS9 hHeld hHeld2 hHeld4 hHeld6 y0 z0 y1 z1 y2 z2 y3 z3 lX9
          generalize ((((V9.setCell ⟨X, 0, none⟩ (.int .i64 0)).setCell ⟨X, 1, none⟩ (.int .i64 self)).setCell ⟨X, 2, none⟩ (.int .i64 dst)).setCell ⟨X, 3, none⟩ (.slice none 0 0)) = W5 at *
          have hXX2 : W1.heap.size ≤ X := by omega
          clear hXX
        all_goals
          refine wpAnyH_done (by kernel_rfl) ?_ _
          have hBX : B ≤ X := by omega
          have hXA : A ≠ X := by omega
          go_wp2_with fail
          refine HQ5.out.call (fun cb' hd => r17_text hd) (fun V6 v hg he q6 => ?_)
          obtain ⟨a7, c7, rfl, hn7, hm7, hin7, hfr7⟩ := he
          have p6 := HQ5.out.kept (X := A) (by simp) HA5.out hg
          have e6 := HQ5.out.kept (X := X) (by simp) HX5.out hg
          generalize hs6 : dText l s9 = r6 at *
          obtain ⟨bs, s6⟩ := r6
          simp only at q6 hn7 hin7 ⊢
          obtain ⟨y3, z3⟩ := World.own_cell e6 3 _ rfl
          have lX6 := World.block_lt_of_cell? V6 _ y3
          have hs56 := hg.size
          have lX5 := (Array.getElem?_eq_some_iff.1 HX5.out).1
          have hs15 := HG5.out.size
          have p7 : (V6.setCell ⟨X, 3, none⟩ (.slice a7 bs.length c7)).heap[A]? = some (.cells (pcells [.int .i64 x1, .int .i64 x2, .int .i64 x3, .int .i64 x4, .int .i64 self, .int .i64 x6, vb, va, vh] zs [vd, vu, vf, ve, vr, vn, .slice ar k cp]) 41 (0, 0)) := by rw [World.block_setCell _ _ _ _ hXA]; exact p6
          have e7 : (V6.setCell ⟨X, 3, none⟩ (.slice a7 bs.length c7)).heap[X]? = some (.cells #[.int .i64 0, .int .i64 self, .int .i64 dst, .slice a7 bs.length c7] 75 (0, 0)) := World.own_set2 e6 3 _ _ rfl
          have g37 : GrewX [X] V6 (V6.setCell ⟨X, 3, none⟩ (.slice a7 bs.length c7)) := (GrewX.refl _ _).set (.inl (by simp)) _
          have hin : CellsIn (V6.setCell ⟨X, 3, none⟩ (.slice a7 bs.length c7)) a7 (bv bs) := g37.cells hin7 (fun q hq => by have := (hfr7 q hq).1; simp; omega)
          have HQ7 := Lib.hid (q6.set (X := X) (by simp) 3 (.slice a7 bs.length c7))
          have HG7 := Lib.hid ((HG5.out.trans (hg.mono (by simp))).set (p := ⟨X, 3, none⟩) (.inr (by show W1.heap.size ≤ X; omega)) (.slice a7 bs.length c7))
          have hfr8 : ∀ q, a7 = some q → W5.heap.size ≤ q.block ∧ q.block < (V6.setCell ⟨X, 3, none⟩ (.slice a7 bs.length c7)).heap.size := fun q hq => ⟨(hfr7 q hq).1, Nat.lt_of_lt_of_le (hfr7 q hq).2 g37.size⟩
          have HF7 := Lib.hid (And.intro hn7 (And.intro hm7 (And.intro hin hfr8)))
          have HK7 := Lib.hid (fun o => Grew.heap ((Grew.refl (V6.setCell ⟨X, 3, none⟩ (.slice a7 bs.length c7))).alloc o) p7)
          have k159 : (V6.setCell ⟨X, 3, none⟩ (.slice a7 bs.length c7)).cell? ⟨A, 159, none⟩ = some (.slice ar k cp) := (World.own_cell p7 159 _ (pc_get_tail rfl HZ.out 6 (by simp))).1
          have kX : (V6.setCell ⟨X, 3, none⟩ (.slice a7 bs.length c7)).cellsAt ⟨X, 0, none⟩ 4 = some [.int .i64 0, .int .i64 self, .int .i64 dst, .slice a7 bs.length c7] := World.cellsAt_block e7 4 rfl
          have lA7 : A < (V6.setCell ⟨X, 3, none⟩ (.slice a7 bs.length c7)).heap.size := World.block_lt_of_cell? _ _ k159
          have lX7 := (Array.getElem?_eq_some_iff.1 e7).1
          have HL6 := Lib.hid (HGO.out _ _ (dOut1_is HS9.out hs6))
          have HROW : Hid ((V6.setCell ⟨X, 3, none⟩ (.slice a7 bs.length c7)).ownsRow B 75 4 (.slice ar k cp) k (ovs.flatMap (ovRow self))) := Lib.hid (HO.out.1.keep fun b hb => by
            have h1 := HO.out.1.lt b hb
            have := HD.out
            have := HB.out
            exact HG7.out.block b h1.2 (by simp; omega))
          have HNE := Lib.hid (fun b (hb : (Value.slice ar k cp).ownBlock = some b) => HO.out.1.lt b hb)
          have hbb : B ≤ (V6.setCell ⟨X, 3, none⟩ (.slice a7 bs.length c7)).heap.size := by have := HG7.out.size; omega
          clear hg p6 e6 q6 hs6 hn7 hm7 hin7 hfr7 p7 e7 g37 hin hfr8 HS9 HQ5 HA5 HX5 HGO
          go_upto_region 31 with fail
          clear y3 z3
          generalize (V6.setCell ⟨X, 3, none⟩ (.slice a7 bs.length c7)) = W7 at *
          go_wp2_with (at_builtin; go_loud (refine wpList_app (by rfl) (.tmp 136) (.tmp 138) 39 (by rfl) elParcel B _ k (ovs.flatMap (ovRow self)) (by rfl) (HROW.out.grew (by exact by repeat (first | with_reducible exact HG.out | with_reducible exact Grew.refl _ | with_reducible assumption | with_reducible apply Grew.plus | with_reducible apply Grew.drewN | with_reducible apply Grew.drew | with_reducible apply Grew.alloc | with_reducible refine Grew.setCell ?_ (by simp [go_sem]; try omega) _))) _ 1 1 #[.int .i64 0, .int .i64 self, .int .i64 dst, .slice a7 bs.length c7] 75 (by rfl) (heap_alloc_at _ _ _ rfl) (by rfl) (by intro u hu; simp at hu; rcases hu with rfl | rfl | rfl | rfl <;> rfl) (by omega) (by omega) (by unfold maxLen; omega) _ (grew_bare _) (Nat.zero_le _) (by rw [alloc_size1]; omega) ?_); intro g c2 w2 hg2 hown2 hkeep2 hsz2 hat2; have pA := (hkeep2 A (by rw [alloc_size1]; omega) (fun e => by have := (HNE.out A e.symm).1; omega)).trans (HK7.out _); obtain ⟨cA, mA⟩ := World.own_cell pA 159 _ (pc_get_tail rfl HZ.out 6 (by simp)); have lA2 := World.block_lt_of_cell? _ _ cA; have HPA := Lib.hid pA; have HO9 := Lib.hid hown2; have HG9 := Lib.hid (And.intro hg2 (And.intro hkeep2 hsz2)); have HAT := Lib.hid hat2; clear pA hown2 hg2 hkeep2 hat2 hsz2)
          obtain ⟨q9, hx9⟩ := HQ7.out.row (.cells #[.int .i64 0, .int .i64 self, .int .i64 dst, .slice a7 bs.length c7] 75) (v := .slice ar k cp) (fun b hb => List.mem_cons_of_mem _ (List.mem_cons_of_mem _ (HO.out.2 b hb))) HG9.out HAT.out HO9.out
          have hgB := (HO9.out.lt g rfl).1
          have q10 := (q9.set (X := A) (by simp) 159 (.slice (some ⟨g, 0, none⟩) (k + 1) c2)).drop (os' := A :: g :: os) (fun j hj => by
            rcases List.mem_cons.1 hj with rfl | hj
            · simp
            · rcases List.mem_cons.1 hj with rfl | hj
              · simp
              · exact List.mem_cons_of_mem _ (List.mem_cons_of_mem _ (List.mem_cons_of_mem _ hj)))
          have hgW : GrewX ([D2, D9, A, Z, Y] ++ (Value.slice ar k cp).ownBlock.toList) W1 w2 := (HG7.out.mono (fun x hx => List.mem_append_left _ hx)).trans (hx9.mono (fun x hx => List.mem_append_right _ hx))
          have gW := (((HG.out.mono (ks' := [D2, D9, A, Z, Y] ++ (Value.slice ar k cp).ownBlock.toList) (fun x hx => List.mem_append_left _ hx)).trans hgW).fresh (ks' := [D2, D9, A, Z, Y]) (fun x hx => by
            rcases List.mem_append.1 hx with h | h
            · exact .inl h
            · exact .inr (by have := (HNE.out x (Option.mem_toList.1 h)).1; have := HB.out; omega))).set (p := ⟨A, 159, none⟩) (.inl (by simp)) (.slice (some ⟨g, 0, none⟩) (k + 1) c2)
          have hat : (Value.slice ar k cp).ownBlock = some g ∨ W7.heap.size < g := by
            rcases HAT.out with h | h
            · exact .inl h
            · right; rw [alloc_size1] at h; omega
          have hgg : ∀ b, b < W7.heap.size → some b ≠ (Value.slice ar k cp).ownBlock → some b ≠ (Value.slice (some ⟨g, 0, none⟩) (k + 1) c2).ownBlock := fun b hb hn e => by
            simp only [Value.ownBlock, Option.some.injEq] at e
            rcases hat with h | h
            · exact hn (by rw [h, e])
            · omega
          have hw17 := HG7.out.size
          have hks : ∀ x ∈ [D2, D9, A, Z, Y], x < B := fun x hx => by have := HD.out; have := HB.out; rcases (by simpa using hx : x = D2 ∨ x = D9 ∨ x = A ∨ x = Z ∨ x = Y) with rfl | rfl | rfl | rfl | rfl <;> omega
          have hlt1 : ∀ b ∈ (Value.slice ar k cp).ownBlock.toList, B ≤ b ∧ b < W1.heap.size := fun b hb => HNE.out b (Option.mem_toList.1 hb)
          have hov : OvsIn w2 B (Value.slice (some ⟨g, 0, none⟩) (k + 1) c2).ownBlock (ovs ++ [⟨dst, bs, a7, c7⟩]) := fun o ho => by
            rcases List.mem_append.1 ho with h | h
            · exact (HOV.out.2.grewX hgW (fun x hx => by
                rcases List.mem_append.1 hx with h | h
                · exact .inl (hks x h)
                · exact .inr (Option.mem_toList.1 h).symm) (fun b _ hb hn => hgg b (by omega) hn)) o h
            · obtain rfl := List.mem_singleton.1 h
              refine ⟨HF7.out.1, HF7.out.2.1, hx9.cells HF7.out.2.2.1 (fun x hx hm => ?_), fun b hb => ?_⟩
              · have := (hlt1 _ hm).2; have := (HF7.out.2.2.2 x hx).1; omega
              · have h1 := HF7.out.2.2.2 b hb
                exact ⟨by omega, Nat.lt_of_lt_of_le h1.2 hx9.size, hgg b.block h1.2 (fun e => by have := (HNE.out b.block e.symm).2; omega)⟩
          have hov2 := hov.grewX ((GrewX.refl [A] w2).set (p := ⟨A, 159, none⟩) (.inl (by simp)) (.slice (some ⟨g, 0, none⟩) (k + 1) c2)) (fun x hx => .inl (hks x (by rw [List.mem_singleton.1 hx]; simp))) (fun b _ _ h => h)
          have HXL2 := HXL.out
          exact ⟨⟨k + 1, xs ++ [⟨dst, bs⟩], s6, some ⟨g, 0, none⟩, c2, g :: os, ovs ++ [⟨dst, bs, a7, c7⟩], by omega, rfl, by simp [HXL2], HL6.out, q10, World.own_set2 HPA.out 159 _ _ (pc_tail rfl HZ.out 6 _), by rw [List.flatMap_append, List.flatMap_singleton]; exact HO9.out.setOther (i := 159) (by simp [Value.ownBlock]; omega) _, (fun b hb => by cases hb; simp), by rw [List.map_append, HOV.out.1]; rfl, hov2, gW⟩, by show n - ((k : Int) + 1).toNat < n - (k : Int).toNat; omega⟩
    · have hkn : k = n := by omega
      subst hkn
      have hend : dLoop (doutB l) (k - k) k xs s' = (xs, s') := by rw [Nat.sub_self]; rfl
      have HRR : Hid (dLoop (doutB l) k 0 [] s = (xs, s')) := Lib.hid (HL.out.symm.trans hend)
      clear hend
      go_wp2_with fail
      refine HOK.out xs s' W1 (.slice ar k cp) _ _ _ _ _ _ _ _ _ _ _ _ _ _ _ _ _ _ _ _ _ _ _ _ _ _ _ _ HRR.out (HQ.out.drop (by simp)) HP.out (fun W' hg => ?_) HG.out
      have hks : ∀ x ∈ [D2, D9, A, Z, Y], x < B := fun x hx => by have := HD.out; have := HB.out; rcases (by simpa using hx : x = D2 ∨ x = D9 ∨ x = A ∨ x = Z ∨ x = Y) with rfl | rfl | rfl | rfl | rfl <;> omega
      have h2 := HO.out.1.grewX hg hks
      have hr := h2.caps
      have hov := HOV.out.2.grewX hg (fun x hx => .inl (hks x hx)) (ne' := (Value.slice ar k cp).ownBlock) (fun b _ _ h => h)
      exact ⟨ar, cp, ovs, by rw [HXL.out], by rw [HXL.out]; exact hr.1, hr.2, h2.cin, fun o ho => by obtain ⟨h1, h2, h3, h4⟩ := hov o ho; exact ⟨h1, h2, h3, fun b hb => ⟨Nat.zero_le _, (h4 b hb).2.1, by simp⟩⟩, HOV.out.1⟩
end
end Go.Proofs.YtnhmekdnfinmiaaGreatDoor
/- Walks: the document's Parts: what stands while it is filled. -/
namespace Go.Proofs.YtnhmekdnfinmiaaGreatDoor
open Go.RowKit Go.Par
set_option linter.unusedSimpArgs false
set_option linter.unusedVariables false
structure DK (w : World) (D2 D9 : Nat) (a : Option Addr) (cap : Nat) (l : List UInt8) (A Z Y : Nat) (F : World → Prop) (W : World) (s : DSt) (cs : Array Value) : Prop where
  q : DQ w D2 D9 a cap l [] W s [A]
  p : W.heap[A]? = some (.cells cs 41 (0, 0))
  f : ∀ W', GrewX [D2, D9, A, Z, Y] W W' → F W'
  lz : Z < w.heap.size ∧ Y < w.heap.size
namespace DK
variable {w W W' : World} {D2 D9 : Nat} {a : Option Addr} {cap : Nat} {l : List UInt8} {A Z Y : Nat} {F : World → Prop} {s : DSt} {cs : Array Value}
theorem set (k : DK w D2 D9 a cap l A Z Y F W s cs) (i : Nat) (v : Value) {cs' : Array Value} (h : cs.setIfInBounds i v = cs') : DK w D2 D9 a cap l A Z Y F (W.setCell ⟨A, i, none⟩ v) s cs' :=
  ⟨k.q.set (by simp) i v, World.own_set2 k.p i v _ h, fun W2 h2 => k.f W2 (((GrewX.refl _ _).set (.inl (by simp)) _).trans h2), k.lz⟩
theorem cell (k : DK w D2 D9 a cap l A Z Y F W s cs) (i : Nat) (u : Value) (h : cs[i]? = some u) : W.cell? ⟨A, i, none⟩ = some u ∧ W.frozen? ⟨A, i, none⟩ = false := World.own_cell k.p i u h
theorem lA (k : DK w D2 D9 a cap l A Z Y F W s cs) : A < W.heap.size := (Array.getElem?_eq_some_iff.1 k.p).1
theorem l9 (k : DK w D2 D9 a cap l A Z Y F W s cs) : D9 < W.heap.size := by have := k.q.g.size; have := k.q.d; omega
theorem l2 (k : DK w D2 D9 a cap l A Z Y F W s cs) : D2 < W.heap.size := by have := k.q.g.size; have := k.q.d; omega
theorem low (k : DK w D2 D9 a cap l A Z Y F W s cs) : ∀ x ∈ [D2, D9, A, Z, Y], x < W.heap.size := fun x hx => by
  have h1 := k.l2; have h2 := k.l9; have h3 := k.lA; have h4 := k.lz; have h5 := k.q.g.size
  rcases (by simpa using hx : x = D2 ∨ x = D9 ∨ x = A ∨ x = Z ∨ x = Y) with rfl | rfl | rfl | rfl | rfl <;> omega
theorem put : ∀ (vs : List Value) {W : World} {cs : Array Value} (o : Nat), DK w D2 D9 a cap l A Z Y F W s cs → DK w D2 D9 a cap l A Z Y F (W.setCells A o vs) s (putA cs o vs)
  | [], W, cs, o, k => k
  | v :: vs, W, cs, o, k => put vs (o + 1) (k.set o v rfl)
theorem also (k : DK w D2 D9 a cap l A Z Y F W s cs) {G : World → Prop} (h : ∀ W', GrewX [D2, D9, A, Z, Y] W W' → F W' → G W') : DK w D2 D9 a cap l A Z Y G W s cs := ⟨k.q, k.p, fun W' h' => h W' h' (k.f W' h'), k.lz⟩
theorem now (k : DK w D2 D9 a cap l A Z Y F W s cs) : F W := k.f W (GrewX.refl _ _)
theorem bad (k : DK w D2 D9 a cap l A Z Y F W s cs) : Calls Tryz.prog 15 #[pt D9] W fun e w' => e = .returned (.bool s.bad.isSome) ∧ W = w' := by
  obtain ⟨cb', -, hd⟩ := k.q.st; exact r9_bad hd
theorem call (k : DK w D2 D9 a cap l A Z Y F W s cs) {α : Type} {enc : α → World → Value → Prop} {m : DM α} {f : FuncId} {args : Array Value} (hc : ∀ cb', DS W D2 D9 a cap l cb' s → Calls Tryz.prog f args W (DPost W D2 D9 a cap l cb' enc (m s))) {X : Ending → World → Prop}
    (hX : ∀ W' v x s', m s = (x, s') → enc x W' v → DK w D2 D9 a cap l A Z Y F W' s' cs → X (.returned v) W') : Calls Tryz.prog f args W X :=
  k.q.call hc fun W' v hg he q => hX W' v _ _ rfl he ⟨q, k.q.kept (by simp) k.p hg, fun W2 h2 => k.f W2 ((hg.mono (by simp)).trans h2), k.lz⟩
theorem num (k : DK w D2 D9 a cap l A Z Y F W s cs) {X : Ending → World → Prop}
    (hX : ∀ W' n s', dNum l most s = (n, s') → DK w D2 D9 a cap l A Z Y F W' s' cs → X (.returned (.int .i64 n)) W') : Calls Tryz.prog 13 #[pt D9] W X :=
  k.call (fun cb' hd => r17_n hd) fun W' v x s' h he k' => by cases (show v = _ from he); exact hX W' x s' h k'
theorem byte (k : DK w D2 D9 a cap l A Z Y F W s cs) (lo hi : Nat) (hlo : lo ≤ 255) (hhi : hi ≤ 255) {X : Ending → World → Prop}
    (hX : ∀ W' (n : UInt8) s', dByte l lo hi s = (n, s') → DK w D2 D9 a cap l A Z Y F W' s' cs → X (.returned (.int .i64 n.toNat)) W') : Calls Tryz.prog 12 #[pt D9, .int .i64 lo, .int .i64 hi] W X :=
  k.call (fun cb' hd => r9_byte hd lo hi hlo hhi) fun W' v x s' h he k' => by cases (show v = _ from he); exact hX W' x s' h k'
theorem count (k : DK w D2 D9 a cap l A Z Y F W s cs) (least : Nat) (h1 : 1 ≤ least) (h4 : least ≤ 4) {X : Ending → World → Prop}
    (hX : ∀ W' (n : Nat) s', dCount l least s = (n, s') → n ≤ 2147483647 → DK w D2 D9 a cap l A Z Y F W' s' cs → X (.returned (.int .i64 n)) W') : Calls Tryz.prog 14 #[pt D9, .int .i64 least] W X :=
  k.call (fun cb' hd => r9_count hd least h1 h4) fun W' v x s' h he k' => by
    cases (show v = _ from he)
    exact hX W' x s' h (by have := dCount_le l least s; rw [h] at this; simp only at this; omega) k'
theorem id (k : DK w D2 D9 a cap l A Z Y F W s cs) {X : Ending → World → Prop}
    (hX : ∀ W' i s', dId l s = (i, s') → DK w D2 D9 a cap l A Z Y F W' s' cs → X (.returned (idV i)) W') : Calls Tryz.prog 16 #[pt D9] W X :=
  k.call (fun cb' hd => r17_id hd) fun W' v x s' h he k' => by cases (show v = _ from he); exact hX W' x s' h k'
theorem acts (k : DK w D2 D9 a cap l A Z Y F W s cs) {X : Ending → World → Prop}
    (hX : ∀ W' xs s' ar cp, dActs l s = (xs, s') → DK w D2 D9 a cap l A Z Y (fun W => F W ∧ ActsIn W (.slice ar xs.length cp) xs) W' s' cs → X (.returned (.slice ar xs.length cp)) W') : Calls Tryz.prog 18 #[pt D9] W X :=
  k.call (fun cb' hd => r9_acts hd) fun W' v x s' h he k' => by
    obtain ⟨ar, cp, rfl, ho⟩ := he
    exact hX W' x s' ar cp h (k'.also fun W2 hg hF => ⟨hF, isActs_in ho hg k.low⟩)
theorem edits (k : DK w D2 D9 a cap l A Z Y F W s cs) {X : Ending → World → Prop}
    (hX : ∀ W' xs s' ar cp, dEdits l s = (xs, s') → DK w D2 D9 a cap l A Z Y (fun W => F W ∧ HistsAt W (.slice ar xs.length cp) xs) W' s' cs → X (.returned (.slice ar xs.length cp)) W') : Calls Tryz.prog 20 #[pt D9] W X :=
  k.call (fun cb' hd => r17_edits hd) fun W' v x s' h he k' => by
    obtain ⟨ar, cp, vs, rfl, ho, hh⟩ := he
    exact hX W' x s' ar cp h (k'.also fun W2 hg hF => ⟨hF, isEdits_in ho hh hg k.low⟩)
theorem rounds (k : DK w D2 D9 a cap l A Z Y F W s cs) {X : Ending → World → Prop}
    (hX : ∀ W' xs s', dRounds l s = (xs, s') → (rz xs).length = 144 → DK w D2 D9 a cap l A Z Y F W' s' cs → X (.returned (.agg (arr (rz xs)))) W') : Calls Tryz.prog 19 #[pt D9] W X :=
  k.call (fun cb' hd => r9_rounds hd) fun W' v x s' h he k' => by
    obtain ⟨rfl, hl⟩ := he
    exact hX W' x s' h hl k'
theorem there (k : DK w D2 D9 a cap l A Z Y F W s cs) (o n : Nat) (ho : o + n ≤ cs.size) : W.there A o n := there_mid k.p o n ho
end DK
end Go.Proofs.YtnhmekdnfinmiaaGreatDoor
/- Plain law: why bytes are refused: no reason beyond those that have a number. No program in sight. -/
set_option linter.unusedVariables false
set_option linter.unusedSimpArgs false
namespace Go.Par
def Ref.few : Ref → Prop
  | .wire _ _ k => k = 2 ∨ k = 6 ∨ k = 7
  | .form _ => True
def Few {α : Type} (m : PM α) : Prop := ∀ p r, m p = .error r → r.few
namespace Few
variable {α β : Type}
theorem pure (x : α) : Few (PM.pure x) := fun p r h => by cases h
theorem bind {m : PM α} {f : α → PM β} (h : Few m) (hf : ∀ x, Few (f x)) : Few (m.bind f) := fun p r e => by
  unfold PM.bind at e
  split at e
  · exact hf _ _ _ e
  · rename_i r' h'
    cases e
    exact h _ _ h'
theorem chk (bad : α → Bool) {m : PM α} (h : Few m) : Few (pChk bad m) := fun p r e => by
  unfold pChk at e
  split at e
  · split at e
    · cases e; trivial
    · cases e
  · rename_i r' h'
    cases e
    exact h _ _ h'
theorem loop {σ : Type} {m : Nat → σ → PM σ} (h : ∀ i x, Few (m i x)) : ∀ n i x, Few (pLoop m n i x)
  | 0, _, x => Few.pure x
  | n + 1, i, x => (h i x).bind fun y => Few.loop h n (i + 1) y
theorem ite {c : Prop} [Decidable c] {m m' : PM α} (h : Few m) (h' : Few m') : Few (if c then m else m') := by
  split
  · exact h
  · exact h'
end Few
section
variable (l : List UInt8)
open Few
theorem wNumber_few (m : Int) : Few (wNumber l m) := fun p r h => by
  unfold wNumber at h
  split at h
  · cases h
  · rename_i c hc
    cases h
    exact scan_code l m _ _ _ _ _ hc
theorem wCount_few (least : Nat) (m : Int) : Few (wCount l least m) := fun p r h => by
  unfold wCount at h
  split at h
  · split at h
    · cases h; exact .inr (.inr rfl)
    · cases h
  · rename_i c hc
    cases h
    exact scan_code l m _ _ _ _ _ hc
theorem wText_few (m : Int) : Few (wText l m) := fun p r h => by
  unfold wText at h
  split at h
  · split at h
    · cases h; exact .inr (.inr rfl)
    · cases h
  · rename_i c hc
    cases h
    exact scan_code l m _ _ _ _ _ hc
theorem wByte_few : Few (wByte l) := fun p r h => by
  unfold wByte at h
  split at h
  · cases h
  · cases h; exact .inr (.inr rfl)
theorem wEnd_few : Few (wEnd l) := fun p r h => by
  unfold wEnd at h
  split at h
  · cases h; exact .inr (.inl rfl)
  · cases h
theorem num_few (least : Nat) (m : Int) : Few (pNum l least m) := (wNumber_few l m).chk _
theorem count_few (least : Nat) : Few (pCount l least) := wCount_few l least _
theorem byte_few (lo hi : Nat) : Few (pByte l lo hi) := (wByte_few l).chk _
theorem id_few : Few (pId l) := (num_few l _ _).bind fun _ => (num_few l _ _).bind fun _ => (num_few l _ _).bind fun _ => pure _
theorem row_few (m : Int) : Few (pRow l m) := (num_few l _ _).bind fun n => loop (fun i xs => (num_few l _ _).bind fun _ => pure _) n 0 []
theorem act_few : Few (pAct l) :=
  (byte_few l _ _).bind fun _ => (num_few l _ _).bind fun _ => (num_few l _ _).bind fun _ => (ite (num_few l _ _) (pure _)).bind fun _ =>
  (num_few l _ _).bind fun _ => (row_few l _).bind fun _ => pure _
theorem acts_few : Few (pActs l) := (count_few l _).bind fun n => loop (fun _ xs => (act_few l).bind fun _ => pure _) n 0 []
theorem round_few (i n : Nat) : Few (pRound l i n) :=
  (num_few l _ _).bind fun _ => ite (pure _) ((row_few l _).bind fun _ => (row_few l _).bind fun _ => (num_few l _ _).bind fun _ => pure _)
theorem rounds_few : Few (pRounds l) := (num_few l _ _).bind fun n => loop (fun i xs => (round_few l i n).bind fun _ => pure _) n 0 []
theorem change_few : Few (pChange l) := (byte_few l _ _).bind fun _ => (id_few l).bind fun _ => pure _
theorem edit_few : Few (pEdit l) := (count_few l _).bind fun n => loop (fun _ xs => (change_few l).bind fun _ => pure _) n 0 []
theorem edits_few : Few (pEdits l) := (count_few l _).bind fun n => loop (fun _ xs => (edit_few l).bind fun _ => pure _) n 0 []
theorem el_few : Few (pEl l) := (id_few l).bind fun _ => (num_few l _ _).bind fun _ => pure _
theorem base_few : Few (pBase l) := (count_few l _).bind fun n => loop (fun _ xs => (el_few l).bind fun _ => pure _) n 0 []
theorem out1_few : Few (pOut1 l) := (num_few l _ _).bind fun _ => (wText_few l _).bind fun _ => pure _
theorem out_few : Few (pOut l) := (count_few l _).bind fun n => loop (fun _ xs => (out1_few l).bind fun _ => pure _) n 0 []
theorem cursor_few : Few (pCursor l) := (byte_few l _ _).bind fun _ => ite (pure _) ((id_few l).bind fun _ => pure _)
theorem parts_few : Few (pParts l) :=
  (byte_few l _ _).bind fun _ => (num_few l _ _).bind fun _ => (num_few l _ _).bind fun _ => (num_few l _ _).bind fun _ => (num_few l _ _).bind fun _ => (num_few l _ _).bind fun _ => (num_few l _ _).bind fun _ =>
  (base_few l).bind fun _ => (acts_few l).bind fun _ => (acts_few l).bind fun _ => (rounds_few l).bind fun _ => (edits_few l).bind fun _ => (edits_few l).bind fun _ => (cursor_few l).bind fun _ => (out_few l).bind fun _ => (wEnd_few l).bind fun _ => pure _
end
end Go.Par
