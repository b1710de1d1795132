/- Texts of this proof, merged (printed by wip/pmerge.py out of RdS). -/
import Derived.Test.YtnhmekdnfinmiaaGreatDoorQ7
import Derived.Test.YtnhmekdnfinmiaaGreatDoorQ5
/- Walks: the document's Parts (printed by wip/gen_rds.py). -/
namespace Go.Proofs.YtnhmekdnfinmiaaGreatDoor
open Go.RowKit Go.Par
set_option linter.unusedSimpArgs false
set_option linter.unusedVariables false
def DPartsV (W : World) (r : PParts × DSt) (e : Ending) : Prop := match r.2.bad with
  | none => ∃ v, e = .returned (.tuple #[v, noV 0 none 0 0 none 0 0]) ∧ PartsV W v r.1
  | some rf => ∃ v, e = .returned (.tuple #[.agg zparts, v]) ∧ NoAt W [] 0 (refNo bImage bParts rf) v
section
variable {w w' : World} {a : Option Addr} {cap : Nat} {l : List UInt8}
theorem stepStore {ops : Array Oper} {o : Oper} {a : Act} {w : World} {Q : Exit → Act → World → Prop} {K : Act → World → Prop} {E : Prop} (hgd : o.guard = none) (ty : TypeId) (x y : Operand) (ho : o.op = .store ty x y)
    (b f : Nat) (cells : Array Value) (hx : a.eval x = .pointer (some ⟨b, f, none⟩)) (hy : a.eval y = .agg cells) (ht : w.there b f cells.size) (hi : (Tryz.prog.info? ty).map (·.size) = some cells.size) (h1 : cells.all (·.oneCell') = true)
    (h : K (a.put o.dst undef) (w.setCells b f cells.toList)) : if Region.wanted o (yielded ops a.tmps) = true then Oper.wp Tryz.prog o a w K Q else E := by
  have hw : Region.wanted o (yielded ops a.tmps) = true := by simp [Region.wanted, hgd]
  rw [if_pos hw]
  exact wp_store_mid ty x y ho b f cells hx hy ht hi h1 h
theorem DPartsV.none {W : World} {x : PParts} {s : DSt} {e : Ending} {v : Value} (hb : s.bad = Option.none) (he : e = .returned (.tuple #[v, noV 0 Option.none 0 0 Option.none 0 0])) (hv : PartsV W v x) : DPartsV W (x, s) e := by
  unfold DPartsV; simp only [hb]; exact ⟨v, he, hv⟩
theorem DPartsV.some {W : World} {x : PParts} {s : DSt} {e : Ending} {v : Value} {r : Ref} (hb : s.bad = Option.some r) (he : e = .returned (.tuple #[.agg zparts, v])) (hv : NoAt W [] 0 (refNo bImage bParts r) v) : DPartsV W (x, s) e := by
  unfold DPartsV; simp only [hb]; exact ⟨v, he, hv⟩
theorem EndV.zero {W : World} {cb : List Nat} {n0 : Nat} {L C : ByteArray} {s : DSt} {a1 a2 : Option Addr} {m1 d1 m2 d2 : Nat} (h : EndV W cb n0 L C s (noV 0 a1 m1 d1 a2 m2 d2)) : s.bad = none ∧ noV 0 a1 m1 d1 a2 m2 d2 = noV 0 none 0 0 none 0 0 := by
  unfold EndV at h
  split at h
  · rename_i hb; exact ⟨hb, h⟩
  · obtain ⟨x1, y1, x2, y2, e, h1, -⟩ := h
    simp [noV] at e
    omega
theorem EndV.pos {W : World} {cb : List Nat} {n0 : Nat} {L C : ByteArray} {s : DSt} {kk : Int} {a1 a2 : Option Addr} {m1 d1 m2 d2 : Nat} (h : EndV W cb n0 L C s (noV kk a1 m1 d1 a2 m2 d2)) (hk : kk ≠ 0) : ∃ r, s.bad = some r ∧ NoAt W cb n0 (refNo L C r) (noV kk a1 m1 d1 a2 m2 d2) := by
  unfold EndV at h
  split at h
  · simp [noV] at h; omega
  · rename_i r hb; exact ⟨r, hb, h⟩
theorem NoAt.to {V W : World} {ks cb : List Nat} {n0 : Nat} {x : Nat × List Link × List Nat} {v : Value} (h : NoAt V cb n0 x v) (hg : GrewX ks V W) (hk : ∀ k ∈ ks, k < n0 ∧ k ∉ cb) : NoAt W [] 0 x v := by
  obtain ⟨a1, c1, a2, c2, e, h1, ha, hb, l1, l2, l3, l4, p1, p2⟩ := h
  refine ⟨a1, c1, a2, c2, e, h1, hg.cells ha (fun q hq hm => ?_), hg.cells hb (fun q hq hm => ?_), l1, l2, l3, l4, fun _ _ => .inl (Nat.zero_le _), fun _ _ => .inl (Nat.zero_le _)⟩
  · obtain ⟨y1, y2⟩ := hk _ hm
    rcases p1 q hq with h | h
    · omega
    · exact y2 h
  · obtain ⟨y1, y2⟩ := hk _ hm
    rcases p2 q hq with h | h
    · omega
    · exact y2 h
theorem cells_past {V W : World} {ks : List Nat} {E n : Nat} {xs : List Value} (hg : GrewX ks V W) (h : V.cellsAt ⟨E, 0, none⟩ n = some xs) (h0 : 0 < n) (hn : E ∉ ks) : W.cellsAt ⟨E, 0, none⟩ n = some xs := by
  have hl : E < V.heap.size := World.cellsAt_lt h h0
  rw [World.cellsAt_congr (w := V) n ⟨E, 0, none⟩ (fun o s => World.cell?_of_block (w := V) (hg.block E hl hn))]; exact h
theorem d_begin (hrow : CellsIn w a (bv l)) (hl : l.length ≤ 4000) (hcap : l.length ≤ cap ∧ cap ≤ 9223372036854775807) (hal : ∀ q, a = some q → q.block < w.heap.size) {w4 : World} {o1 o2 : Array Value} {t1 t2 : TypeId}
    (h : (((w.alloc (.cells o1 t1)).alloc (.cells o2 t2)).alloc (.cells #[.slice a l.length cap, .int .i64 0, .int .i64 0, .slice none 0 0, .slice none 0 0] tD2)).alloc (.cells #[pt (w.heap.size + 1 + 1), .bool false, .int .i64 0] tD9) = w4) :
    DG w4 (w.heap.size + 1 + 1) (w.heap.size + 1 + 1 + 1) a cap l 0 ∧ w4.heap[w.heap.size]? = some (.cells o1 t1 (0, 0)) ∧ w4.heap[w.heap.size + 1]? = some (.cells o2 t2 (0, 0)) ∧ w4.heap.size = w.heap.size + 1 + 1 + 1 + 1 ∧ Grew w w4 := by
  subst h
  have hg : Grew w ((((w.alloc (.cells o1 t1)).alloc (.cells o2 t2)).alloc (.cells #[.slice a l.length cap, .int .i64 0, .int .i64 0, .slice none 0 0, .slice none 0 0] tD2)).alloc (.cells #[pt (w.heap.size + 1 + 1), .bool false, .int .i64 0] tD9)) := ((((Grew.refl w).alloc _).alloc _).alloc _).alloc _
  refine ⟨⟨?_, ?_, CellsIn.grew hrow hg, fun q hq => by have := hal q hq; omega, hcap, hl, Nat.zero_le _, by omega, fun q hq => Nat.lt_of_lt_of_le (hal q hq) hg.size⟩, ?_, ?_, by simp only [alloc_size1], hg⟩
  · rw [heap_alloc_past _ _ _ (by simp only [alloc_size1]; omega)]; exact heap_alloc_at _ _ _ (by simp only [alloc_size1])
  · exact heap_alloc_at _ _ _ (by simp only [alloc_size1])
  · rw [heap_alloc_past _ _ _ (by simp only [alloc_size1]; omega), heap_alloc_past _ _ _ (by simp only [alloc_size1]; omega), heap_alloc_past _ _ _ (by simp only [alloc_size1]; omega)]; exact heap_alloc_new w _
  · rw [heap_alloc_past _ _ _ (by simp only [alloc_size1]; omega), heap_alloc_past _ _ _ (by simp only [alloc_size1]; omega)]; exact heap_alloc_at _ _ _ (by simp only [alloc_size1])
set_option maxRecDepth 1000000 in
set_option maxHeartbeats 4000000 in
theorem d_parts (hrow : CellsIn w a (bv l)) (hl : l.length ≤ 4000) (hcap : l.length ≤ cap ∧ cap ≤ 9223372036854775807) (hal : ∀ q, a = some q → q.block < w.heap.size) :
    Calls Tryz.prog 5 #[.slice a l.length cap] w fun e w' => Grew w w' ∧ DPartsV w' (dParts l ⟨0, none⟩) e := by
  obtain ⟨w4, hw4⟩ : ∃ w4, (((w.alloc (.cells zparts 41)).alloc (.cells #[.int .i64 0, .slice none 0 0, .slice none 0 0] 45)).alloc (.cells #[.slice a l.length cap, .int .i64 0, .int .i64 0, .slice none 0 0, .slice none 0 0] tD2)).alloc (.cells #[pt (w.heap.size + 1 + 1), .bool false, .int .i64 0] tD9) = w4 := ⟨_, rfl⟩
  obtain ⟨hdg, hb2, hb3, hs4, hgw⟩ := d_begin hrow hl hcap hal hw4
  have Q0 := DQ.start (cb := []) (show DS w4 (w.heap.size + 1 + 1) (w.heap.size + 1 + 1 + 1) a cap l [] ⟨0, none⟩ from ⟨hdg, by simp⟩)
  have K0 : DK w4 (w.heap.size + 1 + 1) (w.heap.size + 1 + 1 + 1) a cap l (w.heap.size + 1 + 1 + 1 + 1) w.heap.size (w.heap.size + 1) (fun _ => True) (w4.alloc (.cells zparts 41)) ⟨0, none⟩ zparts := ⟨Q0.own ((Grew.refl w4).alloc _) (by omega) (by rw [alloc_size1]; omega), heap_alloc_at _ _ _ hs4.symm, fun _ _ => trivial, by omega⟩
  have HB := Lib.hid (And.intro hb2 (And.intro hb3 hgw))
  have HK0 := Lib.hid K0
  clear hdg hb2 hb3 hgw Q0 K0 hrow hl hcap hal
  go_enter Tryz.func5, Tryz.ntmps5
  go_wp2_with fail
  rw [zparts_is]
  unfold pt at hw4
  rw [hw4]
  clear hw4
  generalize (w4.alloc (.cells zparts 41)) = U0 at *
  generalize hB2 : w.heap.size = B2 at *
  generalize hB3 : B2 + 1 = B3 at *
  generalize hD2 : B3 + 1 = D2 at *
  generalize hD9 : D2 + 1 = D9 at *
  generalize hA : D9 + 1 = A at *
  have HN := Lib.hid (And.intro hB2 (And.intro hB3 (And.intro hD2 (And.intro hD9 (And.intro hA hs4)))))
  clear hB2 hB3 hD2 hD9 hA hs4
  unfold zparts at HK0
  have HZ : Hid ((rz []).length = 144) := Lib.hid rfl
  have L0 := Lib.hid (rfl : dParts l ⟨0, none⟩ = dParts l ⟨0, none⟩)
  have k0 := HK0.out
  have l9 := k0.l9
  clear HK0
  refine k0.byte 66 66 (by decide) (by decide) (fun V0 x0 s0 h0 k1 => ?_)
  have L1 := Lib.hid (L0.out.trans (dbind_is h0))
  have HK1 := Lib.hid k1
  clear h0 k0 L0 k1
  go_wp2_with fail
  have k1 := HK1.out
  clear HK1 l9
  have l9 := k1.l9
  refine k1.num (fun V1 x1 s1 h1 kk1 => ?_)
  have L2 := Lib.hid (L1.out.trans (dbind_is h1))
  clear h1
  obtain ⟨c1, m1⟩ := kk1.cell 0 (.int .i64 0) (pc_get_head 0 (by simp))
  have lA1 := kk1.lA
  have K2 := Lib.hid (kk1.set 0 (.int .i64 x1) (cs' := (pcells [.int .i64 x1, .int .i64 0, .int .i64 0, .int .i64 0, .int .i64 0, .int .i64 0, .slice none 0 0, .slice none 0 0, .slice none 0 0] (rz []) [.slice none 0 0, .slice none 0 0, .bool false, .int .i64 0, .int .i64 0, .int .i64 0, .slice none 0 0])) (pc_head 0 (by simp) _))
  clear kk1 k1 L1
  have l91 := l9
  clear l9
  go_wp2_with fail
  clear c1 m1 lA1 l91
  have k2 := K2.out
  clear K2
  have l9 := k2.l9
  generalize V1.setCell ⟨A, 0, none⟩ (.int .i64 x1) = U2 at *
  refine k2.num (fun V2 x2 s2 h2 kk2 => ?_)
  have L3 := Lib.hid (L2.out.trans (dbind_is h2))
  clear h2
  obtain ⟨c2, m2⟩ := kk2.cell 1 (.int .i64 0) (pc_get_head 1 (by simp))
  have lA2 := kk2.lA
  have K3 := Lib.hid (kk2.set 1 (.int .i64 x2) (cs' := (pcells [.int .i64 x1, .int .i64 x2, .int .i64 0, .int .i64 0, .int .i64 0, .int .i64 0, .slice none 0 0, .slice none 0 0, .slice none 0 0] (rz []) [.slice none 0 0, .slice none 0 0, .bool false, .int .i64 0, .int .i64 0, .int .i64 0, .slice none 0 0])) (pc_head 1 (by simp) _))
  clear kk2 k2 L2
  have l92 := l9
  clear l9
  go_wp2_with fail
  clear c2 m2 lA2 l92
  have k3 := K3.out
  clear K3
  have l9 := k3.l9
  generalize V2.setCell ⟨A, 1, none⟩ (.int .i64 x2) = U3 at *
  refine k3.num (fun V3 x3 s3 h3 kk3 => ?_)
  have L4 := Lib.hid (L3.out.trans (dbind_is h3))
  clear h3
  obtain ⟨c3, m3⟩ := kk3.cell 2 (.int .i64 0) (pc_get_head 2 (by simp))
  have lA3 := kk3.lA
  have K4 := Lib.hid (kk3.set 2 (.int .i64 x3) (cs' := (pcells [.int .i64 x1, .int .i64 x2, .int .i64 x3, .int .i64 0, .int .i64 0, .int .i64 0, .slice none 0 0, .slice none 0 0, .slice none 0 0] (rz []) [.slice none 0 0, .slice none 0 0, .bool false, .int .i64 0, .int .i64 0, .int .i64 0, .slice none 0 0])) (pc_head 2 (by simp) _))
  clear kk3 k3 L3
  have l93 := l9
  clear l9
  go_wp2_with fail
  clear c3 m3 lA3 l93
  have k4 := K4.out
  clear K4
  have l9 := k4.l9
  generalize V3.setCell ⟨A, 2, none⟩ (.int .i64 x3) = U4 at *
  refine k4.num (fun V4 x4 s4 h4 kk4 => ?_)
  have L5 := Lib.hid (L4.out.trans (dbind_is h4))
  clear h4
  obtain ⟨c4, m4⟩ := kk4.cell 3 (.int .i64 0) (pc_get_head 3 (by simp))
  have lA4 := kk4.lA
  have K5 := Lib.hid (kk4.set 3 (.int .i64 x4) (cs' := (pcells [.int .i64 x1, .int .i64 x2, .int .i64 x3, .int .i64 x4, .int .i64 0, .int .i64 0, .slice none 0 0, .slice none 0 0, .slice none 0 0] (rz []) [.slice none 0 0, .slice none 0 0, .bool false, .int .i64 0, .int .i64 0, .int .i64 0, .slice none 0 0])) (pc_head 3 (by simp) _))
  clear kk4 k4 L4
  have l94 := l9
  clear l9
  go_wp2_with fail
  clear c4 m4 lA4 l94
  have k5 := K5.out
  clear K5
  have l9 := k5.l9
  generalize V4.setCell ⟨A, 3, none⟩ (.int .i64 x4) = U5 at *
  refine k5.num (fun V5 x5 s5 h5 kk5 => ?_)
  have L6 := Lib.hid (L5.out.trans (dbind_is h5))
  clear h5
  obtain ⟨c5, m5⟩ := kk5.cell 4 (.int .i64 0) (pc_get_head 4 (by simp))
  have lA5 := kk5.lA
  have K6 := Lib.hid (kk5.set 4 (.int .i64 x5) (cs' := (pcells [.int .i64 x1, .int .i64 x2, .int .i64 x3, .int .i64 x4, .int .i64 x5, .int .i64 0, .slice none 0 0, .slice none 0 0, .slice none 0 0] (rz []) [.slice none 0 0, .slice none 0 0, .bool false, .int .i64 0, .int .i64 0, .int .i64 0, .slice none 0 0])) (pc_head 4 (by simp) _))
  clear kk5 k5 L5
  have l95 := l9
  clear l9
  go_wp2_with fail
  clear c5 m5 lA5 l95
  have k6 := K6.out
  clear K6
  have l9 := k6.l9
  generalize V5.setCell ⟨A, 4, none⟩ (.int .i64 x5) = U6 at *
  refine k6.num (fun V6 x6 s6 h6 kk6 => ?_)
  have L7 := Lib.hid (L6.out.trans (dbind_is h6))
  clear h6
  obtain ⟨c6, m6⟩ := kk6.cell 5 (.int .i64 0) (pc_get_head 5 (by simp))
  have lA6 := kk6.lA
  have K7 := Lib.hid (kk6.set 5 (.int .i64 x6) (cs' := (pcells [.int .i64 x1, .int .i64 x2, .int .i64 x3, .int .i64 x4, .int .i64 x5, .int .i64 x6, .slice none 0 0, .slice none 0 0, .slice none 0 0] (rz []) [.slice none 0 0, .slice none 0 0, .bool false, .int .i64 0, .int .i64 0, .int .i64 0, .slice none 0 0])) (pc_head 5 (by simp) _))
  clear kk6 k6 L6
  have l96 := l9
  clear l9
  go_wp2_with fail
  clear c6 m6 lA6 l96
  have k7 := K7.out
  clear K7
  have l9 := k7.l9
  generalize V6.setCell ⟨A, 5, none⟩ (.int .i64 x6) = U7 at *
  refine k7.count 4 (by decide) (by decide) (fun V7 n s7 h7 hn kk7 => ?_)
  have HX := Lib.hid (And.intro kk7 h7)
  clear l9
  have l9 := kk7.l9
  clear k7 kk7 h7
  go_wp2_with fail
  refine d_base_loop x1 x2 x3 x4 x5 x6 _ _ _ _ _ _ _ _ _ _ _ _ _ _ _ _ _ _ _ _ _ _ _ _ _ _ _ _ _ _ _ _ _ _ _ _ _ _ _ _ _ _ _ _ _ _ _ _ _ _ _ _ _ _ _ _ _ _ _ _ _ _ _ _ _ _ _ _ _ _ _ _ _ _ _ _ _ _ _ _ _ _ _ _ _ _ _ _ _ _ _ _ _ _ _ _ _ _ _ _ _ _ _ _ _ _ _ _ _ _ _ _ _ _ _ _ _ _ _ _ _ _ _ _ _ _ _ _ _ _ _ _ _ _ _ _ _ _ _ _ _ _ _ _ _ _ _ _ hn HX.out.1.lz HX.out.1.q HX.out.1.p ?hqp (fun bs s8 V8 vb u7 u8 u48 u49 u50 u51 u52 u53 u54 u55 u56 u57 u58 u59 u60 u61 u62 u63 u64 u65 u66 u67 u68 u69 u70 u71 u72 u73 u74 h8 q8 p8 hF8 hg8 => ?_)
  case hqp => exact (fun ch a1 a2 w1 hd h => ⟨hd.symm.trans h.1, h.2⟩)
  obtain ⟨arb, nnb, cpb, rfl⟩ : ∃ ar nn cp, vb = .slice ar nn cp := by obtain ⟨ar, cp, e, -⟩ := hF8 V8 (GrewX.refl _ _); exact ⟨ar, _, cp, e⟩
  have k8 : DK w4 D2 D9 a cap l A B2 B3 (fun W => ElsIn W (.slice arb nnb cpb) bs) V8 s8 (pcells [.int .i64 x1, .int .i64 x2, .int .i64 x3, .int .i64 x4, .int .i64 x5, .int .i64 x6, .slice arb nnb cpb, .slice none 0 0, .slice none 0 0] (rz []) [.slice none 0 0, .slice none 0 0, .bool false, .int .i64 0, .int .i64 0, .int .i64 0, .slice none 0 0]) := ⟨q8, p8, hF8, HX.out.1.lz⟩
  have L8 := Lib.hid (L7.out.trans (dbind_is (show dBase l s6 = (bs, s8) from (congrFun (dBase_eq l) s6).trans ((dbind_is HX.out.2).trans h8))))
  have HK8 := Lib.hid k8
  clear l9
  have l9 := k8.l9
  clear q8 p8 hF8 hg8 h8 L7 HX k8
  go_wp2_with fail
  have k8 := HK8.out
  clear HK8
  refine k8.acts (fun V8 x8 s9 ar8 cp8 h8 kk8 => ?_)
  have L9 := Lib.hid (L8.out.trans (dbind_is h8))
  clear h8
  obtain ⟨c8, m8⟩ := kk8.cell 7 (.slice none 0 0) (pc_get_head 7 (by simp))
  have lA8 := kk8.lA
  have K9 := Lib.hid (kk8.set 7 (.slice ar8 x8.length cp8) (cs' := (pcells [.int .i64 x1, .int .i64 x2, .int .i64 x3, .int .i64 x4, .int .i64 x5, .int .i64 x6, .slice arb nnb cpb, .slice ar8 x8.length cp8, .slice none 0 0] (rz []) [.slice none 0 0, .slice none 0 0, .bool false, .int .i64 0, .int .i64 0, .int .i64 0, .slice none 0 0])) (pc_head 7 (by simp) _))
  clear kk8 k8 L8
  have l98 := l9
  clear l9
  go_wp2_with fail
  clear c8 m8 lA8 l98
  have k9 := K9.out
  clear K9
  have l9 := k9.l9
  generalize V8.setCell ⟨A, 7, none⟩ (.slice ar8 x8.length cp8) = U9 at *
  refine k9.acts (fun V9 x9 s10 ar9 cp9 h9 kk9 => ?_)
  have L10 := Lib.hid (L9.out.trans (dbind_is h9))
  clear h9
  obtain ⟨c9, m9⟩ := kk9.cell 8 (.slice none 0 0) (pc_get_head 8 (by simp))
  have lA9 := kk9.lA
  have K10 := Lib.hid (kk9.set 8 (.slice ar9 x9.length cp9) (cs' := (pcells [.int .i64 x1, .int .i64 x2, .int .i64 x3, .int .i64 x4, .int .i64 x5, .int .i64 x6, .slice arb nnb cpb, .slice ar8 x8.length cp8, .slice ar9 x9.length cp9] (rz []) [.slice none 0 0, .slice none 0 0, .bool false, .int .i64 0, .int .i64 0, .int .i64 0, .slice none 0 0])) (pc_head 8 (by simp) _))
  clear kk9 k9 L9
  have l99 := l9
  clear l9
  go_wp2_with fail
  clear c9 m9 lA9 l99
  have k10 := K10.out
  clear K10
  have l9 := k10.l9
  generalize V9.setCell ⟨A, 8, none⟩ (.slice ar9 x9.length cp9) = U10 at *
  refine k10.rounds (fun V10 rs s11 h10 hz10 kk10 => ?_)
  have L11 := Lib.hid (L10.out.trans (dbind_is h10))
  have HT10 := Lib.hid (kk10.there 9 144 (by rw [pc_size rfl HZ.out rfl]; omega))
  have HZR := Lib.hid hz10
  have K11 := Lib.hid (kk10.put (arr (rz rs)).toList 9)
  have HPC := Lib.hid (pc_rounds (h := [.int .i64 x1, .int .i64 x2, .int .i64 x3, .int .i64 x4, .int .i64 x5, .int .i64 x6, .slice arb nnb cpb, .slice ar8 x8.length cp8, .slice ar9 x9.length cp9]) (zs := rz []) (zs' := rz rs) (t := [.slice none 0 0, .slice none 0 0, .bool false, .int .i64 0, .int .i64 0, .int .i64 0, .slice none 0 0]) rfl HZ.out HZR.out)
  clear l9
  have l9 := kk10.l9
  have l92 := K11.out.l9
  clear h10 kk10 k10 L10 hz10
  go_wp2_with (refine wpList_store_mid (by rfl) 33 (.tmp 89) (.tmp 88) (by rfl) A 9 (arr (rz rs)) (by rfl) (by rfl) (by rw [arr_size, HZR.out]; exact HT10.out) (by rw [arr_size, HZR.out]; exact info_rounds) (arr_ones _) ?_)
  have k11 := K11.out
  rw [HPC.out] at k11
  clear K11 HPC HT10 l9
  generalize V10.setCells A 9 (arr (rz rs)).toList = U11 at *
  have l9 := l92
  clear l92
  refine k11.edits (fun V11 x11 s12 ar11 cp11 h11 kk11 => ?_)
  have L12 := Lib.hid (L11.out.trans (dbind_is h11))
  clear h11
  obtain ⟨c11, m11⟩ := kk11.cell 153 (.slice none 0 0) (pc_get_tail rfl HZR.out 0 (by simp))
  have lA11 := kk11.lA
  have K12 := Lib.hid (kk11.set 153 (.slice ar11 x11.length cp11) (cs' := (pcells [.int .i64 x1, .int .i64 x2, .int .i64 x3, .int .i64 x4, .int .i64 x5, .int .i64 x6, .slice arb nnb cpb, .slice ar8 x8.length cp8, .slice ar9 x9.length cp9] (rz rs) [.slice ar11 x11.length cp11, .slice none 0 0, .bool false, .int .i64 0, .int .i64 0, .int .i64 0, .slice none 0 0])) (pc_tail rfl HZR.out 0 _))
  clear kk11 k11 L11
  have l911 := l9
  clear l9
  go_wp2_with fail
  clear c11 m11 lA11 l911
  have k12 := K12.out
  clear K12
  have l9 := k12.l9
  generalize V11.setCell ⟨A, 153, none⟩ (.slice ar11 x11.length cp11) = U12 at *
  refine k12.edits (fun V12 x12 s13 ar12 cp12 h12 kk12 => ?_)
  have L13 := Lib.hid (L12.out.trans (dbind_is h12))
  clear h12
  obtain ⟨c12, m12⟩ := kk12.cell 154 (.slice none 0 0) (pc_get_tail rfl HZR.out 1 (by simp))
  have lA12 := kk12.lA
  have K13 := Lib.hid (kk12.set 154 (.slice ar12 x12.length cp12) (cs' := (pcells [.int .i64 x1, .int .i64 x2, .int .i64 x3, .int .i64 x4, .int .i64 x5, .int .i64 x6, .slice arb nnb cpb, .slice ar8 x8.length cp8, .slice ar9 x9.length cp9] (rz rs) [.slice ar11 x11.length cp11, .slice ar12 x12.length cp12, .bool false, .int .i64 0, .int .i64 0, .int .i64 0, .slice none 0 0])) (pc_tail rfl HZR.out 1 _))
  clear kk12 k12 L12
  have l912 := l9
  clear l9
  go_wp2_with fail
  clear c12 m12 lA12 l912
  have k13 := K13.out
  clear K13
  have l9 := k13.l9
  generalize V12.setCell ⟨A, 154, none⟩ (.slice ar12 x12.length cp12) = U13 at *
  refine k13.byte 0 1 (by decide) (by decide) (fun V13 x13 s14 h13 kk13 => ?_)
  have HL13 := Lib.hid h13
  clear h13 l9
  have l9 := kk13.l9
  by_cases hf : x13.toNat = 1
  · skip
    have hf2 : ((x13.toNat : Int) == 1) = true := by simp [hf]
    obtain ⟨c13, m13⟩ := kk13.cell 155 (.bool false) (pc_get_tail rfl HZR.out 2 (by simp))
    have lA13 := kk13.lA
    have HF := Lib.hid hf
    have K14 := Lib.hid (kk13.set 155 (.bool true) (cs' := (pcells [.int .i64 x1, .int .i64 x2, .int .i64 x3, .int .i64 x4, .int .i64 x5, .int .i64 x6, .slice arb nnb cpb, .slice ar8 x8.length cp8, .slice ar9 x9.length cp9] (rz rs) [.slice ar11 x11.length cp11, .slice ar12 x12.length cp12, .bool true, .int .i64 0, .int .i64 0, .int .i64 0, .slice none 0 0])) (pc_tail rfl HZR.out 2 _))
    have c14 := (K14.out.cell 155 (.bool true) (pc_get_tail rfl HZR.out 2 (by simp))).1
    have l92 := K14.out.l9
    have lA14 := K14.out.lA
    clear kk13 k13 hf
    go_wp2_with fail
    have hcur := show dCursor l s13 = ((true, zId), s14) from (dbind_is HL13.out).trans (by rw [if_pos HF.out]; rfl)
    have L15 := Lib.hid (L13.out.trans (dbind_is hcur))
    have k15 := K14.out
    clear K14 c13 m13 lA13 c14 hcur hf2 HF L13 HL13 l9 lA14
    generalize V13.setCell ⟨A, 155, none⟩ (.bool true) = U15 at *
    have l9 := l92
    clear l92
    refine k15.count 2 (by decide) (by decide) (fun V16 n2 s16 h16 hn2 kk16 => ?_)
    have HX2 := Lib.hid (And.intro kk16 h16)
    clear l9
    have l9 := kk16.l9
    clear h16 k15 kk16
    go_wp2_with fail
    refine d_out_loop x1 x2 x3 x4 x5 x6 (rz rs) (.slice arb nnb cpb) (.slice ar8 x8.length cp8) (.slice ar9 x9.length cp9) (.slice ar11 x11.length cp11) (.slice ar12 x12.length cp12) (.bool true) (.int .i64 0) (.int .i64 0) (.int .i64 0) _ _ _ _ _ _ _ _ _ _ _ _ _ _ _ _ _ _ _ _ _ _ _ _ _ _ _ _ _ _ _ _ _ _ _ _ _ _ _ _ _ _ _ _ _ _ _ _ _ _ _ _ _ _ _ _ _ _ _ _ _ _ _ _ _ _ _ _ _ _ _ _ _ _ _ _ _ _ _ _ _ _ _ _ _ _ _ _ _ _ _ _ _ _ _ _ _ _ _ _ _ _ _ _ _ _ _ _ _ _ _ _ _ _ _ _ _ _ _ _ _ _ _ _ _ _ _ _ _ _ _ _ _ _ _ _ _ _ _ _ _ _ _ _ _ _ _ _ hn2 HZR HX2.out.1.lz HX2.out.1.q HX2.out.1.p ?hqp (fun os s17 V17 vo u9 u10 u115 u116 u117 u118 u119 u120 u121 u122 u123 u124 u125 u126 u127 u128 u129 u130 u131 u132 u133 u134 u135 u136 u137 u138 u139 u140 h17 q17 p17 hF17 hg17 => ?_)
    case hqp => exact (fun ch a1 a2 w1 hd h => ⟨hd.symm.trans h.1, h.2⟩)
    obtain ⟨aro, nno, cpo, rfl⟩ : ∃ ar nn cp, vo = .slice ar nn cp := by obtain ⟨ar, cp, vs, e, -⟩ := hF17 V17 (GrewX.refl _ _); exact ⟨ar, _, cp, e⟩
    have k17 : DK w4 D2 D9 a cap l A B2 B3 (fun W => (((((ElsIn W (.slice arb nnb cpb) bs) ∧ ActsIn W (.slice ar8 x8.length cp8) x8) ∧ ActsIn W (.slice ar9 x9.length cp9) x9) ∧ HistsAt W (.slice ar11 x11.length cp11) x11) ∧ HistsAt W (.slice ar12 x12.length cp12) x12) ∧ OutsIn W (.slice aro nno cpo) x5 os) V17 s17 (pcells [.int .i64 x1, .int .i64 x2, .int .i64 x3, .int .i64 x4, .int .i64 x5, .int .i64 x6, .slice arb nnb cpb, .slice ar8 x8.length cp8, .slice ar9 x9.length cp9] (rz rs) [.slice ar11 x11.length cp11, .slice ar12 x12.length cp12, .bool true, .int .i64 0, .int .i64 0, .int .i64 0, .slice aro nno cpo]) := ⟨q17, p17, fun W' hg => ⟨HX2.out.1.f W' (hg17.trans hg), hF17 W' hg⟩, HX2.out.1.lz⟩
    have L17 := Lib.hid (L15.out.trans (dbind_is (show dOut l _ = (os, s17) from (congrFun (dOut_eq l) _).trans ((dbind_is HX2.out.2).trans h17))))
    have HK17 := Lib.hid k17
    clear l9
    have l9 := k17.l9
    clear q17 p17 hF17 hg17 h17 L15 HX2 hn2 k17
    go_wp2_with fail
    obtain ⟨cb', hcb', hds⟩ := HK17.out.q.st
    refine (r9_end bImage bParts hds).mono ?_
    rintro e V18 ⟨hg18, v, rfl, hv⟩
    have HV := Lib.hid hv
    obtain ⟨kk, a1, m1, d1, a2, m2, d2, rfl⟩ : IsNo v := by
      unfold EndV at hv
      split at hv
      · exact ⟨0, none, 0, 0, none, 0, 0, hv⟩
      · obtain ⟨b1, e1, b2, e2, e, -⟩ := hv; exact ⟨_, _, _, _, _, _, _, e⟩
    have h2n : B2 < B3 ∧ B3 < D2 ∧ D2 < D9 ∧ D9 < A := by have := HN.out; omega
    have hgw4 := HK17.out.q.g.trans hg18
    have hb2 := hgw4.heap HB.out.1 (by simp; omega)
    have hb3 := hgw4.heap HB.out.2.1 (by simp; omega)
    have hA18 := hg18.heap HK17.out.p (by simp; omega)
    have hF18 := fun W' (hW : GrewX [D2, D9, A, B2, B3] V18 W') => HK17.out.f W' ((hg18.mono (by simp)).trans hW)
    have HE := Lib.hid (And.intro hgw4 (And.intro hb2 (And.intro hb3 (And.intro hA18 hF18))))
    have HLE := Lib.hid (L17.out.trans (dbind_is (show dEnd l s17 = ((), (dEnd l s17).2) from rfl)))
    have HCB : Hid (∀ k ∈ [B2, B3], k < V17.heap.size ∧ k ∉ cb') := Lib.hid (fun k hk => by have h1 := HN.out; have h2 := HK17.out.q.g.size; rcases (by simpa using hk : k = B2 ∨ k = B3) with rfl | rfl <;> exact ⟨by omega, fun hm => by have := (hcb' _ hm).1; simp at this; omega⟩)
    clear hv hgw4 hb2 hb3 hA18 hF18 hg18 HK17 L17 l9 hcb' hds
    unfold noV
    go_wp2_with fail
    · skip
      have hk : (kk != 0) = true := by assumption
      have HK1 : Hid (kk ≠ 0) := Lib.hid (by simpa using hk)
      clear hk
      have hgE : Grew V18 (V18.alloc (.cells #[.int .i64 kk, .slice a1 m1 d1, .slice a2 m2 d2] 45)).drew := ((Grew.refl V18).alloc _).drew
      have xE : (V18.alloc (.cells #[.int .i64 kk, .slice a1 m1 d1, .slice a2 m2 d2] 45)).drew.cellsAt ⟨V18.heap.size, 0, none⟩ 3 = _ := World.cellsAt_block (show (V18.alloc (.cells #[.int .i64 kk, .slice a1 m1 d1, .slice a2 m2 d2] 45)).drew.heap[V18.heap.size]? = _ by rw [heap_drew0]; exact heap_alloc_new V18 (.cells #[.int .i64 kk, .slice a1 m1 d1, .slice a2 m2 d2] 45)) 3 rfl
      have hb2 := Grew.heap hgE HE.out.2.1
      have hb3 := Grew.heap hgE HE.out.2.2.1
      have hA8 := Grew.heap hgE HE.out.2.2.2.1
      have HBB := Lib.hid (And.intro hb2 (And.intro hb3 (And.intro hA8 hgE)))
      have HBE : Hid (B2 < V18.heap.size ∧ B3 < V18.heap.size) := Lib.hid ⟨(Array.getElem?_eq_some_iff.1 HE.out.2.1).1, (Array.getElem?_eq_some_iff.1 HE.out.2.2.1).1⟩
      clear hb2 hb3 hA8 hgE
      generalize (V18.alloc (.cells #[.int .i64 kk, .slice a1 m1 d1, .slice a2 m2 d2] 45)) = W7 at *
      generalize hEE : V18.heap.size = E at *
      have HEE := Lib.hid hEE
      clear hEE
      refine wp_region_held_drew (S := fun w' => w'.cellsAt ⟨E, 0, none⟩ 3 = some [.int .i64 kk, .slice a1 m1 d1, .slice a2 m2 d2]) (by kernel_rfl) (by exact xE) (fun hHeld => ?_)
      generalize W7.drew = W8 at *
      refine wpAnyH_take (i := 0) (v := ?_) rfl (by kernel_rfl) (by kernel_rfl) (by kernel_rfl) (by first | exact fun _ _ _ h => h | exact fun _ _ _ h => HQP _ _ _ _ (by rfl) h) (Or.inl ⟨by rfl, ?_⟩) (by assumption) ?_
      rotate_left 1
      · (intro w hSw; (try dsimp only at hSw); go_simp; (try with_reducible rfl))
      (try simp only [List.getElem_toArray, List.getElem_cons_zero, List.getElem_cons_succ])
      (try simp only [Act.put, List.setIfInBounds_toArray, List.set_cons_zero, List.set_cons_succ])
      refine wpAnyH_take (i := 1) (v := ?_) rfl (by kernel_rfl) (by kernel_rfl) (by kernel_rfl) (by first | exact fun _ _ _ h => h | exact fun _ _ _ h => HQP _ _ _ _ (by rfl) h) (Or.inl ⟨by rfl, ?_⟩) (by assumption) ?_
      rotate_left 1
      · (intro w hSw; (try dsimp only at hSw); go_simp; (try with_reducible rfl))
      (try simp only [List.getElem_toArray, List.getElem_cons_zero, List.getElem_cons_succ])
      (try simp only [Act.put, List.setIfInBounds_toArray, List.set_cons_zero, List.set_cons_succ])
      refine wpAnyH_ready (rs := [2]) (by kernel_rfl) (by simp) ?_
      refine AllReadyH.cons rfl (fun K hK => ?_) AllReadyH.nil
      refine stepStore (by rfl) 41 (.tmp 2) (.tmp 148) (by rfl) B2 0 zparts (by rfl) (by rw [← zparts_is]; rfl) (by rw [zparts_size]; have := HBB.out.1; exact there_mid this 0 160 (by rw [zparts_size]; decide)) (by rw [zparts_size]; exact info_parts) zparts_ones ?_
      have hg9 : GrewX [B2] W8 (W8.setCells B2 0 zparts.toList) := setCells_gx _ _ _
      have hE9 : (W8.setCells B2 0 zparts.toList).cellsAt ⟨E, 0, none⟩ 3 = some [.int .i64 kk, .slice a1 m1 d1, .slice a2 m2 d2] := cells_past hg9 xE (by decide) (by have := HBE.out; simp; omega)
      have hB9 : (W8.setCells B2 0 zparts.toList).heap[B2]? = some (.cells zparts 41 (0, 0)) := by
        have := setCells_own zparts.toList W8 0 _ HBB.out.1
        rwa [putA_all _ _ (zparts_size.trans (zparts_size).symm)] at this
      have hC9 := hg9.heap HBB.out.2.1 (by simp; omega)
      skip
      refine hK.out _ _ hE9 (fun _ => ?_)
      clear hK K
      (try simp only [Act.put, List.setIfInBounds_toArray, List.set_cons_zero, List.set_cons_succ])
      have HW9 := Lib.hid (And.intro hg9 (And.intro hB9 hC9))
      clear hg9 hB9 hC9
      generalize W8.setCells B2 0 zparts.toList = W9 at *
      refine wpAnyH_ready (rs := [3]) (by kernel_rfl) (by simp) ?_
      refine AllReadyH.cons rfl (fun K hK => ?_) AllReadyH.nil
      refine stepStore (by rfl) 45 (.tmp 3) (.tmp 149) (by rfl) B3 0 #[.int .i64 kk, .slice a1 m1 d1, .slice a2 m2 d2] (by rfl) (by rfl) (by exact there_mid HW9.out.2.2 0 3 (by decide)) (by kernel_rfl) (by simp [Value.oneCell']) ?_
      have hg10 : GrewX [B3] W9 (W9.setCells B3 0 (#[.int .i64 kk, .slice a1 m1 d1, .slice a2 m2 d2] : Array Value).toList) := setCells_gx _ _ _
      have hE10 : (W9.setCells B3 0 (#[.int .i64 kk, .slice a1 m1 d1, .slice a2 m2 d2] : Array Value).toList).cellsAt ⟨E, 0, none⟩ 3 = some [.int .i64 kk, .slice a1 m1 d1, .slice a2 m2 d2] := cells_past hg10 hE9 (by decide) (by have := HBE.out; have := HEE.out; simp; omega)
      have hB10 := hg10.heap HW9.out.2.1 (by simp; omega)
      have hC10 : (W9.setCells B3 0 (#[.int .i64 kk, .slice a1 m1 d1, .slice a2 m2 d2] : Array Value).toList).heap[B3]? = some (.cells #[.int .i64 kk, .slice a1 m1 d1, .slice a2 m2 d2] 45 (0, 0)) := by
        have := setCells_own (#[.int .i64 kk, .slice a1 m1 d1, .slice a2 m2 d2] : Array Value).toList W9 0 _ HW9.out.2.2
        rwa [putA_all #[.int .i64 0, .slice none 0 0, .slice none 0 0] #[.int .i64 kk, .slice a1 m1 d1, .slice a2 m2 d2] rfl] at this
      refine hK.out _ _ hE10 (fun _ => ?_)
      clear hK K
      (try simp only [Act.put, List.setIfInBounds_toArray, List.set_cons_zero, List.set_cons_succ])
      have HW10 := Lib.hid (And.intro hg10 (And.intro hB10 hC10))
      clear hg10 hB10 hC10 hE9 hE10
      generalize W9.setCells B3 0 (#[.int .i64 kk, .slice a1 m1 d1, .slice a2 m2 d2] : Array Value).toList = W10 at *
      refine wpAnyH_done (by kernel_rfl) ?_ _
      go_wp2_with fail
      obtain ⟨rf, hrf, hno⟩ := HV.out.pos HK1.out
      have hgx : GrewX [B2, B3] V18 W10 := (((GrewX.of_grew HBB.out.2.2.2).trans (HW9.out.1.mono (by simp))).trans (HW10.out.1.mono (by simp)))
      have hno2 := hno.to hgx (fun k hk => ?hkkt)
      case hkkt => exact HCB.out k hk
      have hl2 := run_loadVar_mid (P := Tryz.prog) W10 B2 0 41 zparts.toList _ (range_all HW10.out.2.1) Tryz.underlying41 rfl (by rw [Array.length_toList, zparts_size]; exact info_parts)
      have hl3 := run_loadVar_mid (P := Tryz.prog) W10 B3 0 45 (#[.int .i64 kk, .slice a1 m1 d1, .slice a2 m2 d2] : Array Value).toList _ (range_all HW10.out.2.2) Tryz.underlying45 rfl (by kernel_rfl)
      refine bodyPost_ret (v := .tuple #[.agg zparts, noV kk a1 m1 d1 a2 m2 d2]) ?hrest rfl ?hbotht
      rotate_left 1
      · refine And.intro ?hgrewt ?hpostt
        case hgrewt => exact hgx.toGrew (HE.out.1.toGrew HB.out.2.2 (by have := HN.out; simp <;> omega)) (by have := HN.out; simp <;> omega)
        rw [HLE.out]
        exact DPartsV.some (r := rf) hrf rfl hno2
      · simp [results, Tryz.results5, Sem.run_bind, Sem.run_pure, asAddr, Act.put, hl2, hl3]
    · skip
      have hk : (kk != 0) = false := by assumption
      have hk0 : kk = 0 := by simpa using hk
      clear hk
      subst hk0
      have hgE : Grew V18 (V18.alloc (.cells #[.int .i64 0, .slice a1 m1 d1, .slice a2 m2 d2] 45)).drew := ((Grew.refl V18).alloc _).drew
      have xE : (V18.alloc (.cells #[.int .i64 0, .slice a1 m1 d1, .slice a2 m2 d2] 45)).drew.cellsAt ⟨V18.heap.size, 0, none⟩ 3 = _ := World.cellsAt_block (show (V18.alloc (.cells #[.int .i64 0, .slice a1 m1 d1, .slice a2 m2 d2] 45)).drew.heap[V18.heap.size]? = _ by rw [heap_drew0]; exact heap_alloc_new V18 (.cells #[.int .i64 0, .slice a1 m1 d1, .slice a2 m2 d2] 45)) 3 rfl
      have hb2 := Grew.heap hgE HE.out.2.1
      have hb3 := Grew.heap hgE HE.out.2.2.1
      have hA8 := Grew.heap hgE HE.out.2.2.2.1
      have HBB := Lib.hid (And.intro hb2 (And.intro hb3 (And.intro hA8 hgE)))
      have HBE : Hid (B2 < V18.heap.size ∧ B3 < V18.heap.size) := Lib.hid ⟨(Array.getElem?_eq_some_iff.1 HE.out.2.1).1, (Array.getElem?_eq_some_iff.1 HE.out.2.2.1).1⟩
      clear hb2 hb3 hA8 hgE
      generalize (V18.alloc (.cells #[.int .i64 0, .slice a1 m1 d1, .slice a2 m2 d2] 45)) = W7 at *
      generalize hEE : V18.heap.size = E at *
      have HEE := Lib.hid hEE
      clear hEE
      have hps : ((pcells [.int .i64 x1, .int .i64 x2, .int .i64 x3, .int .i64 x4, .int .i64 x5, .int .i64 x6, .slice arb nnb cpb, .slice ar8 x8.length cp8, .slice ar9 x9.length cp9] (rz rs) [.slice ar11 x11.length cp11, .slice ar12 x12.length cp12, .bool true, .int .i64 0, .int .i64 0, .int .i64 0, .slice aro nno cpo])).size = 160 := pc_size rfl HZR.out rfl
      have hon : ((pcells [.int .i64 x1, .int .i64 x2, .int .i64 x3, .int .i64 x4, .int .i64 x5, .int .i64 x6, .slice arb nnb cpb, .slice ar8 x8.length cp8, .slice ar9 x9.length cp9] (rz rs) [.slice ar11 x11.length cp11, .slice ar12 x12.length cp12, .bool true, .int .i64 0, .int .i64 0, .int .i64 0, .slice aro nno cpo])).all (·.oneCell') = true := by simp [pcells, Value.oneCell']
      obtain ⟨pcs, hpcs⟩ : ∃ pcs, pcs = ((pcells [.int .i64 x1, .int .i64 x2, .int .i64 x3, .int .i64 x4, .int .i64 x5, .int .i64 x6, .slice arb nnb cpb, .slice ar8 x8.length cp8, .slice ar9 x9.length cp9] (rz rs) [.slice ar11 x11.length cp11, .slice ar12 x12.length cp12, .bool true, .int .i64 0, .int .i64 0, .int .i64 0, .slice aro nno cpo])) := ⟨_, rfl⟩
      have HAA := HBB.out.2.2.1
      rw [← hpcs] at hps hon HAA
      have HPS := Lib.hid hps
      have HON := Lib.hid hon
      have HPC := Lib.hid hpcs
      have hra := range_all HAA
      have HA8 := Lib.hid HAA
      clear hps hon hpcs HAA
      refine wp_region_held_drew (S := fun w' => w'.cellsAt ⟨E, 0, none⟩ 3 = some [.int .i64 0, .slice a1 m1 d1, .slice a2 m2 d2] ∧ w'.rangeAt A 0 pcs.toList) (by kernel_rfl) ⟨by exact xE, by exact hra⟩ (fun hHeld => ?_)
      generalize W7.drew = W8 at *
      refine wpAnyH_take (i := 0) (v := .agg pcs) rfl (by kernel_rfl) (by kernel_rfl) (by kernel_rfl) (by exact fun _ _ _ h => h) (yieldsIf_load_mid (by rfl) 41 _ rfl A 0 rfl pcs.toList _ (fun w h => h.2) Tryz.underlying41 rfl (by rw [Array.length_toList, HPS.out]; exact info_parts)) (by assumption) ?_
      try simp only [Act.put, List.setIfInBounds_toArray, List.set_cons_zero, List.set_cons_succ]
      refine wpAnyH_take (i := 1) (v := ?_) rfl (by kernel_rfl) (by kernel_rfl) (by kernel_rfl) (by first | exact fun _ _ _ h => h | exact fun _ _ _ h => HQP _ _ _ _ (by rfl) h) (Or.inl ⟨by rfl, ?_⟩) (by assumption) ?_
      rotate_left 1
      · (intro w hSw; (try dsimp only at hSw); go_simp; (try with_reducible rfl))
      (try simp only [List.getElem_toArray, List.getElem_cons_zero, List.getElem_cons_succ])
      (try simp only [Act.put, List.setIfInBounds_toArray, List.set_cons_zero, List.set_cons_succ])
      refine wpAnyH_ready (rs := [2]) (by kernel_rfl) (by simp) ?_
      refine AllReadyH.cons rfl (fun K hK => ?_) AllReadyH.nil
      refine stepStore (by rfl) 41 (.tmp 2) (.tmp 150) (by rfl) B2 0 pcs (by rfl) (by rfl) (by rw [HPS.out]; have := HBB.out.1; exact there_mid this 0 160 (by rw [zparts_size]; decide)) (by rw [HPS.out]; exact info_parts) HON.out ?_
      have hg9 : GrewX [B2] W8 (W8.setCells B2 0 pcs.toList) := setCells_gx _ _ _
      have hE9 : (W8.setCells B2 0 pcs.toList).cellsAt ⟨E, 0, none⟩ 3 = some [.int .i64 0, .slice a1 m1 d1, .slice a2 m2 d2] := cells_past hg9 xE (by decide) (by have := HBE.out; simp; omega)
      have hB9 : (W8.setCells B2 0 pcs.toList).heap[B2]? = some (.cells pcs 41 (0, 0)) := by
        have := setCells_own pcs.toList W8 0 _ HBB.out.1
        rwa [putA_all _ _ (zparts_size.trans (HPS.out).symm)] at this
      have hC9 := hg9.heap HBB.out.2.1 (by simp; omega)
      have hA9 := hg9.heap HA8.out (by simp; omega)
      have hR9 := range_all hA9
      skip
      refine hK.out _ _ ⟨hE9, hR9⟩ (fun _ => ?_)
      clear hK K
      (try simp only [Act.put, List.setIfInBounds_toArray, List.set_cons_zero, List.set_cons_succ])
      have HW9 := Lib.hid (And.intro hg9 (And.intro hB9 hC9))
      clear hg9 hB9 hC9
      generalize W8.setCells B2 0 pcs.toList = W9 at *
      refine wpAnyH_ready (rs := [3]) (by kernel_rfl) (by simp) ?_
      refine AllReadyH.cons rfl (fun K hK => ?_) AllReadyH.nil
      refine stepStore (by rfl) 45 (.tmp 3) (.tmp 151) (by rfl) B3 0 #[.int .i64 0, .slice a1 m1 d1, .slice a2 m2 d2] (by rfl) (by rfl) (by exact there_mid HW9.out.2.2 0 3 (by decide)) (by kernel_rfl) (by simp [Value.oneCell']) ?_
      have hg10 : GrewX [B3] W9 (W9.setCells B3 0 (#[.int .i64 0, .slice a1 m1 d1, .slice a2 m2 d2] : Array Value).toList) := setCells_gx _ _ _
      have hE10 : (W9.setCells B3 0 (#[.int .i64 0, .slice a1 m1 d1, .slice a2 m2 d2] : Array Value).toList).cellsAt ⟨E, 0, none⟩ 3 = some [.int .i64 0, .slice a1 m1 d1, .slice a2 m2 d2] := cells_past hg10 hE9 (by decide) (by have := HBE.out; have := HEE.out; simp; omega)
      have hB10 := hg10.heap HW9.out.2.1 (by simp; omega)
      have hC10 : (W9.setCells B3 0 (#[.int .i64 0, .slice a1 m1 d1, .slice a2 m2 d2] : Array Value).toList).heap[B3]? = some (.cells #[.int .i64 0, .slice a1 m1 d1, .slice a2 m2 d2] 45 (0, 0)) := by
        have := setCells_own (#[.int .i64 0, .slice a1 m1 d1, .slice a2 m2 d2] : Array Value).toList W9 0 _ HW9.out.2.2
        rwa [putA_all #[.int .i64 0, .slice none 0 0, .slice none 0 0] #[.int .i64 0, .slice a1 m1 d1, .slice a2 m2 d2] rfl] at this
      have hR10 := range_all (hg10.heap hA9 (by simp; omega))
      refine hK.out _ _ ⟨hE10, hR10⟩ (fun _ => ?_)
      clear hK K
      (try simp only [Act.put, List.setIfInBounds_toArray, List.set_cons_zero, List.set_cons_succ])
      have HW10 := Lib.hid (And.intro hg10 (And.intro hB10 hC10))
      clear hg10 hB10 hC10 hE9 hE10
      generalize W9.setCells B3 0 (#[.int .i64 0, .slice a1 m1 d1, .slice a2 m2 d2] : Array Value).toList = W10 at *
      refine wpAnyH_done (by kernel_rfl) ?_ _
      go_wp2_with fail
      obtain ⟨hbad, hno0⟩ := HV.out.zero
      have hgx : GrewX [B2, B3] V18 W10 := (((GrewX.of_grew HBB.out.2.2.2).trans (HW9.out.1.mono (by simp))).trans (HW10.out.1.mono (by simp)))
      have hl2 := run_loadVar_mid (P := Tryz.prog) W10 B2 0 41 pcs.toList _ (range_all HW10.out.2.1) Tryz.underlying41 rfl (by rw [Array.length_toList, HPS.out]; exact info_parts)
      have hl3 := run_loadVar_mid (P := Tryz.prog) W10 B3 0 45 (#[.int .i64 0, .slice a1 m1 d1, .slice a2 m2 d2] : Array Value).toList _ (range_all HW10.out.2.2) Tryz.underlying45 rfl (by kernel_rfl)
      refine bodyPost_ret (v := .tuple #[.agg pcs, noV 0 a1 m1 d1 a2 m2 d2]) ?hresZt rfl ?hbothZt
      rotate_left 1
      · refine And.intro ?hgrewZt ?hpostZt
        case hgrewZt => exact hgx.toGrew (HE.out.1.toGrew HB.out.2.2 (by have := HN.out; simp <;> omega)) (by have := HN.out; simp <;> omega)
        rw [HLE.out, hno0]
        refine DPartsV.none hbad rfl ?_
        obtain ⟨⟨⟨⟨⟨fb, fa⟩, fh⟩, fd⟩, fu⟩, fo⟩ := HE.out.2.2.2.2 W10 (hgx.mono (by simp))
        exact ⟨_, _, _, _, _, _, (by first | (rw [HPC.out]; done) | (rw [HPC.out]; rfl)), HZR.out, fb, fa, fh, fd, fu, fo⟩
      · simp [results, Tryz.results5, Sem.run_bind, Sem.run_pure, asAddr, Act.put, hl2, hl3]
  · skip
    have hf2 : ((x13.toNat : Int) == 1) = false := by simp only [beq_eq_false_iff_ne, ne_eq]; omega
    obtain ⟨c13, m13⟩ := kk13.cell 155 (.bool false) (pc_get_tail rfl HZR.out 2 (by simp))
    have lA13 := kk13.lA
    have HF := Lib.hid hf
    have K14 := Lib.hid (kk13.set 155 (.bool false) (cs' := (pcells [.int .i64 x1, .int .i64 x2, .int .i64 x3, .int .i64 x4, .int .i64 x5, .int .i64 x6, .slice arb nnb cpb, .slice ar8 x8.length cp8, .slice ar9 x9.length cp9] (rz rs) [.slice ar11 x11.length cp11, .slice ar12 x12.length cp12, .bool false, .int .i64 0, .int .i64 0, .int .i64 0, .slice none 0 0])) (pc_tail rfl HZR.out 2 _))
    have c14 := (K14.out.cell 155 (.bool false) (pc_get_tail rfl HZR.out 2 (by simp))).1
    have l92 := K14.out.l9
    have lA14 := K14.out.lA
    clear kk13 k13 hf
    go_wp2_with fail
    have k14 := K14.out
    clear K14 c13 m13 lA13 c14 hf2 lA14
    generalize V13.setCell ⟨A, 155, none⟩ (.bool false) = U14 at *
    refine k14.id (fun V14 ci s15 h14 kk14 => ?_)
    have hcur : dCursor l s13 = ((false, ci), s15) := (dbind_is HL13.out).trans (by rw [if_neg HF.out]; exact dbind_is h14)
    have L15 := Lib.hid (L13.out.trans (dbind_is hcur))
    obtain ⟨i0, i1, i2⟩ := ci
    simp only [idV]
    obtain ⟨ca, ma⟩ := kk14.cell 156 (.int .i64 0) (pc_get_tail rfl HZR.out 3 (by simp))
    obtain ⟨cc, mc⟩ := kk14.cell 157 (.int .i64 0) (pc_get_tail rfl HZR.out 4 (by simp))
    obtain ⟨cd, md⟩ := kk14.cell 158 (.int .i64 0) (pc_get_tail rfl HZR.out 5 (by simp))
    have lA14 := kk14.lA
    have K15 := Lib.hid (((kk14.set 156 (.int .i64 i0) (cs' := (pcells [.int .i64 x1, .int .i64 x2, .int .i64 x3, .int .i64 x4, .int .i64 x5, .int .i64 x6, .slice arb nnb cpb, .slice ar8 x8.length cp8, .slice ar9 x9.length cp9] (rz rs) [.slice ar11 x11.length cp11, .slice ar12 x12.length cp12, .bool false, .int .i64 i0, .int .i64 0, .int .i64 0, .slice none 0 0])) (pc_tail rfl HZR.out 3 _)).set 157 (.int .i64 i1) (cs' := (pcells [.int .i64 x1, .int .i64 x2, .int .i64 x3, .int .i64 x4, .int .i64 x5, .int .i64 x6, .slice arb nnb cpb, .slice ar8 x8.length cp8, .slice ar9 x9.length cp9] (rz rs) [.slice ar11 x11.length cp11, .slice ar12 x12.length cp12, .bool false, .int .i64 i0, .int .i64 i1, .int .i64 0, .slice none 0 0])) (pc_tail rfl HZR.out 4 _)).set 158 (.int .i64 i2) (cs' := (pcells [.int .i64 x1, .int .i64 x2, .int .i64 x3, .int .i64 x4, .int .i64 x5, .int .i64 x6, .slice arb nnb cpb, .slice ar8 x8.length cp8, .slice ar9 x9.length cp9] (rz rs) [.slice ar11 x11.length cp11, .slice ar12 x12.length cp12, .bool false, .int .i64 i0, .int .i64 i1, .int .i64 i2, .slice none 0 0])) (pc_tail rfl HZR.out 5 _))
    clear h14 k14 L13 hcur HF HL13 l9 l92
    have l9 := kk14.l9
    have l92 := K15.out.l9
    clear kk14
    go_wp2_with fail
    clear ca ma cc mc cd md lA14 l9
    have k15 := K15.out
    clear K15
    generalize ((V14.setCell ⟨A, 156, none⟩ (.int .i64 i0)).setCell ⟨A, 157, none⟩ (.int .i64 i1)).setCell ⟨A, 158, none⟩ (.int .i64 i2) = U15 at *
    have l9 := l92
    clear l92
    refine k15.count 2 (by decide) (by decide) (fun V16 n2 s16 h16 hn2 kk16 => ?_)
    have HX2 := Lib.hid (And.intro kk16 h16)
    clear l9
    have l9 := kk16.l9
    clear h16 k15 kk16
    go_wp2_with fail
    refine d_out_loop x1 x2 x3 x4 x5 x6 (rz rs) (.slice arb nnb cpb) (.slice ar8 x8.length cp8) (.slice ar9 x9.length cp9) (.slice ar11 x11.length cp11) (.slice ar12 x12.length cp12) (.bool false) (.int .i64 i0) (.int .i64 i1) (.int .i64 i2) _ _ _ _ _ _ _ _ _ _ _ _ _ _ _ _ _ _ _ _ _ _ _ _ _ _ _ _ _ _ _ _ _ _ _ _ _ _ _ _ _ _ _ _ _ _ _ _ _ _ _ _ _ _ _ _ _ _ _ _ _ _ _ _ _ _ _ _ _ _ _ _ _ _ _ _ _ _ _ _ _ _ _ _ _ _ _ _ _ _ _ _ _ _ _ _ _ _ _ _ _ _ _ _ _ _ _ _ _ _ _ _ _ _ _ _ _ _ _ _ _ _ _ _ _ _ _ _ _ _ _ _ _ _ _ _ _ _ _ _ _ _ _ _ _ _ _ _ hn2 HZR HX2.out.1.lz HX2.out.1.q HX2.out.1.p ?hqp (fun os s17 V17 vo u9 u10 u115 u116 u117 u118 u119 u120 u121 u122 u123 u124 u125 u126 u127 u128 u129 u130 u131 u132 u133 u134 u135 u136 u137 u138 u139 u140 h17 q17 p17 hF17 hg17 => ?_)
    case hqp => exact (fun ch a1 a2 w1 hd h => ⟨hd.symm.trans h.1, h.2⟩)
    obtain ⟨aro, nno, cpo, rfl⟩ : ∃ ar nn cp, vo = .slice ar nn cp := by obtain ⟨ar, cp, vs, e, -⟩ := hF17 V17 (GrewX.refl _ _); exact ⟨ar, _, cp, e⟩
    have k17 : DK w4 D2 D9 a cap l A B2 B3 (fun W => (((((ElsIn W (.slice arb nnb cpb) bs) ∧ ActsIn W (.slice ar8 x8.length cp8) x8) ∧ ActsIn W (.slice ar9 x9.length cp9) x9) ∧ HistsAt W (.slice ar11 x11.length cp11) x11) ∧ HistsAt W (.slice ar12 x12.length cp12) x12) ∧ OutsIn W (.slice aro nno cpo) x5 os) V17 s17 (pcells [.int .i64 x1, .int .i64 x2, .int .i64 x3, .int .i64 x4, .int .i64 x5, .int .i64 x6, .slice arb nnb cpb, .slice ar8 x8.length cp8, .slice ar9 x9.length cp9] (rz rs) [.slice ar11 x11.length cp11, .slice ar12 x12.length cp12, .bool false, .int .i64 i0, .int .i64 i1, .int .i64 i2, .slice aro nno cpo]) := ⟨q17, p17, fun W' hg => ⟨HX2.out.1.f W' (hg17.trans hg), hF17 W' hg⟩, HX2.out.1.lz⟩
    have L17 := Lib.hid (L15.out.trans (dbind_is (show dOut l _ = (os, s17) from (congrFun (dOut_eq l) _).trans ((dbind_is HX2.out.2).trans h17))))
    have HK17 := Lib.hid k17
    clear l9
    have l9 := k17.l9
    clear q17 p17 hF17 hg17 h17 L15 HX2 hn2 k17
    go_wp2_with fail
    obtain ⟨cb', hcb', hds⟩ := HK17.out.q.st
    refine (r9_end bImage bParts hds).mono ?_
    rintro e V18 ⟨hg18, v, rfl, hv⟩
    have HV := Lib.hid hv
    obtain ⟨kk, a1, m1, d1, a2, m2, d2, rfl⟩ : IsNo v := by
      unfold EndV at hv
      split at hv
      · exact ⟨0, none, 0, 0, none, 0, 0, hv⟩
      · obtain ⟨b1, e1, b2, e2, e, -⟩ := hv; exact ⟨_, _, _, _, _, _, _, e⟩
    have h2n : B2 < B3 ∧ B3 < D2 ∧ D2 < D9 ∧ D9 < A := by have := HN.out; omega
    have hgw4 := HK17.out.q.g.trans hg18
    have hb2 := hgw4.heap HB.out.1 (by simp; omega)
    have hb3 := hgw4.heap HB.out.2.1 (by simp; omega)
    have hA18 := hg18.heap HK17.out.p (by simp; omega)
    have hF18 := fun W' (hW : GrewX [D2, D9, A, B2, B3] V18 W') => HK17.out.f W' ((hg18.mono (by simp)).trans hW)
    have HE := Lib.hid (And.intro hgw4 (And.intro hb2 (And.intro hb3 (And.intro hA18 hF18))))
    have HLE := Lib.hid (L17.out.trans (dbind_is (show dEnd l s17 = ((), (dEnd l s17).2) from rfl)))
    have HCB : Hid (∀ k ∈ [B2, B3], k < V17.heap.size ∧ k ∉ cb') := Lib.hid (fun k hk => by have h1 := HN.out; have h2 := HK17.out.q.g.size; rcases (by simpa using hk : k = B2 ∨ k = B3) with rfl | rfl <;> exact ⟨by omega, fun hm => by have := (hcb' _ hm).1; simp at this; omega⟩)
    clear hv hgw4 hb2 hb3 hA18 hF18 hg18 HK17 L17 l9 hcb' hds
    unfold noV
    go_wp2_with fail
    · skip
      have hk : (kk != 0) = true := by assumption
      have HK1 : Hid (kk ≠ 0) := Lib.hid (by simpa using hk)
      clear hk
      have hgE : Grew V18 (V18.alloc (.cells #[.int .i64 kk, .slice a1 m1 d1, .slice a2 m2 d2] 45)).drew := ((Grew.refl V18).alloc _).drew
      have xE : (V18.alloc (.cells #[.int .i64 kk, .slice a1 m1 d1, .slice a2 m2 d2] 45)).drew.cellsAt ⟨V18.heap.size, 0, none⟩ 3 = _ := World.cellsAt_block (show (V18.alloc (.cells #[.int .i64 kk, .slice a1 m1 d1, .slice a2 m2 d2] 45)).drew.heap[V18.heap.size]? = _ by rw [heap_drew0]; exact heap_alloc_new V18 (.cells #[.int .i64 kk, .slice a1 m1 d1, .slice a2 m2 d2] 45)) 3 rfl
      have hb2 := Grew.heap hgE HE.out.2.1
      have hb3 := Grew.heap hgE HE.out.2.2.1
      have hA8 := Grew.heap hgE HE.out.2.2.2.1
      have HBB := Lib.hid (And.intro hb2 (And.intro hb3 (And.intro hA8 hgE)))
      have HBE : Hid (B2 < V18.heap.size ∧ B3 < V18.heap.size) := Lib.hid ⟨(Array.getElem?_eq_some_iff.1 HE.out.2.1).1, (Array.getElem?_eq_some_iff.1 HE.out.2.2.1).1⟩
      clear hb2 hb3 hA8 hgE
      generalize (V18.alloc (.cells #[.int .i64 kk, .slice a1 m1 d1, .slice a2 m2 d2] 45)) = W7 at *
      generalize hEE : V18.heap.size = E at *
      have HEE := Lib.hid hEE
      clear hEE
      refine wp_region_held_drew (S := fun w' => w'.cellsAt ⟨E, 0, none⟩ 3 = some [.int .i64 kk, .slice a1 m1 d1, .slice a2 m2 d2]) (by kernel_rfl) (by exact xE) (fun hHeld => ?_)
      generalize W7.drew = W8 at *
      refine wpAnyH_take (i := 0) (v := ?_) rfl (by kernel_rfl) (by kernel_rfl) (by kernel_rfl) (by first | exact fun _ _ _ h => h | exact fun _ _ _ h => HQP _ _ _ _ (by rfl) h) (Or.inl ⟨by rfl, ?_⟩) (by assumption) ?_
      rotate_left 1
      · (intro w hSw; (try dsimp only at hSw); go_simp; (try with_reducible rfl))
      (try simp only [List.getElem_toArray, List.getElem_cons_zero, List.getElem_cons_succ])
      (try simp only [Act.put, List.setIfInBounds_toArray, List.set_cons_zero, List.set_cons_succ])
      refine wpAnyH_take (i := 1) (v := ?_) rfl (by kernel_rfl) (by kernel_rfl) (by kernel_rfl) (by first | exact fun _ _ _ h => h | exact fun _ _ _ h => HQP _ _ _ _ (by rfl) h) (Or.inl ⟨by rfl, ?_⟩) (by assumption) ?_
      rotate_left 1
      · (intro w hSw; (try dsimp only at hSw); go_simp; (try with_reducible rfl))
      (try simp only [List.getElem_toArray, List.getElem_cons_zero, List.getElem_cons_succ])
      (try simp only [Act.put, List.setIfInBounds_toArray, List.set_cons_zero, List.set_cons_succ])
      refine wpAnyH_ready (rs := [2]) (by kernel_rfl) (by simp) ?_
      refine AllReadyH.cons rfl (fun K hK => ?_) AllReadyH.nil
      refine stepStore (by rfl) 41 (.tmp 2) (.tmp 148) (by rfl) B2 0 zparts (by rfl) (by rw [← zparts_is]; rfl) (by rw [zparts_size]; have := HBB.out.1; exact there_mid this 0 160 (by rw [zparts_size]; decide)) (by rw [zparts_size]; exact info_parts) zparts_ones ?_
      have hg9 : GrewX [B2] W8 (W8.setCells B2 0 zparts.toList) := setCells_gx _ _ _
      have hE9 : (W8.setCells B2 0 zparts.toList).cellsAt ⟨E, 0, none⟩ 3 = some [.int .i64 kk, .slice a1 m1 d1, .slice a2 m2 d2] := cells_past hg9 xE (by decide) (by have := HBE.out; simp; omega)
      have hB9 : (W8.setCells B2 0 zparts.toList).heap[B2]? = some (.cells zparts 41 (0, 0)) := by
        have := setCells_own zparts.toList W8 0 _ HBB.out.1
        rwa [putA_all _ _ (zparts_size.trans (zparts_size).symm)] at this
      have hC9 := hg9.heap HBB.out.2.1 (by simp; omega)
      skip
      refine hK.out _ _ hE9 (fun _ => ?_)
      clear hK K
      (try simp only [Act.put, List.setIfInBounds_toArray, List.set_cons_zero, List.set_cons_succ])
      have HW9 := Lib.hid (And.intro hg9 (And.intro hB9 hC9))
      clear hg9 hB9 hC9
      generalize W8.setCells B2 0 zparts.toList = W9 at *
      refine wpAnyH_ready (rs := [3]) (by kernel_rfl) (by simp) ?_
      refine AllReadyH.cons rfl (fun K hK => ?_) AllReadyH.nil
      refine stepStore (by rfl) 45 (.tmp 3) (.tmp 149) (by rfl) B3 0 #[.int .i64 kk, .slice a1 m1 d1, .slice a2 m2 d2] (by rfl) (by rfl) (by exact there_mid HW9.out.2.2 0 3 (by decide)) (by kernel_rfl) (by simp [Value.oneCell']) ?_
      have hg10 : GrewX [B3] W9 (W9.setCells B3 0 (#[.int .i64 kk, .slice a1 m1 d1, .slice a2 m2 d2] : Array Value).toList) := setCells_gx _ _ _
      have hE10 : (W9.setCells B3 0 (#[.int .i64 kk, .slice a1 m1 d1, .slice a2 m2 d2] : Array Value).toList).cellsAt ⟨E, 0, none⟩ 3 = some [.int .i64 kk, .slice a1 m1 d1, .slice a2 m2 d2] := cells_past hg10 hE9 (by decide) (by have := HBE.out; have := HEE.out; simp; omega)
      have hB10 := hg10.heap HW9.out.2.1 (by simp; omega)
      have hC10 : (W9.setCells B3 0 (#[.int .i64 kk, .slice a1 m1 d1, .slice a2 m2 d2] : Array Value).toList).heap[B3]? = some (.cells #[.int .i64 kk, .slice a1 m1 d1, .slice a2 m2 d2] 45 (0, 0)) := by
        have := setCells_own (#[.int .i64 kk, .slice a1 m1 d1, .slice a2 m2 d2] : Array Value).toList W9 0 _ HW9.out.2.2
        rwa [putA_all #[.int .i64 0, .slice none 0 0, .slice none 0 0] #[.int .i64 kk, .slice a1 m1 d1, .slice a2 m2 d2] rfl] at this
      refine hK.out _ _ hE10 (fun _ => ?_)
      clear hK K
      (try simp only [Act.put, List.setIfInBounds_toArray, List.set_cons_zero, List.set_cons_succ])
      have HW10 := Lib.hid (And.intro hg10 (And.intro hB10 hC10))
      clear hg10 hB10 hC10 hE9 hE10
      generalize W9.setCells B3 0 (#[.int .i64 kk, .slice a1 m1 d1, .slice a2 m2 d2] : Array Value).toList = W10 at *
      refine wpAnyH_done (by kernel_rfl) ?_ _
      go_wp2_with fail
      obtain ⟨rf, hrf, hno⟩ := HV.out.pos HK1.out
      have hgx : GrewX [B2, B3] V18 W10 := (((GrewX.of_grew HBB.out.2.2.2).trans (HW9.out.1.mono (by simp))).trans (HW10.out.1.mono (by simp)))
      have hno2 := hno.to hgx (fun k hk => ?hkkf)
      case hkkf => exact HCB.out k hk
      have hl2 := run_loadVar_mid (P := Tryz.prog) W10 B2 0 41 zparts.toList _ (range_all HW10.out.2.1) Tryz.underlying41 rfl (by rw [Array.length_toList, zparts_size]; exact info_parts)
      have hl3 := run_loadVar_mid (P := Tryz.prog) W10 B3 0 45 (#[.int .i64 kk, .slice a1 m1 d1, .slice a2 m2 d2] : Array Value).toList _ (range_all HW10.out.2.2) Tryz.underlying45 rfl (by kernel_rfl)
      refine bodyPost_ret (v := .tuple #[.agg zparts, noV kk a1 m1 d1 a2 m2 d2]) ?hresf rfl ?hbothf
      rotate_left 1
      · refine And.intro ?hgrewf ?hpostf
        case hgrewf => exact hgx.toGrew (HE.out.1.toGrew HB.out.2.2 (by have := HN.out; simp <;> omega)) (by have := HN.out; simp <;> omega)
        rw [HLE.out]
        exact DPartsV.some (r := rf) hrf rfl hno2
      · simp [results, Tryz.results5, Sem.run_bind, Sem.run_pure, asAddr, Act.put, hl2, hl3]
    · skip
      have hk : (kk != 0) = false := by assumption
      have hk0 : kk = 0 := by simpa using hk
      clear hk
      subst hk0
      have hgE : Grew V18 (V18.alloc (.cells #[.int .i64 0, .slice a1 m1 d1, .slice a2 m2 d2] 45)).drew := ((Grew.refl V18).alloc _).drew
      have xE : (V18.alloc (.cells #[.int .i64 0, .slice a1 m1 d1, .slice a2 m2 d2] 45)).drew.cellsAt ⟨V18.heap.size, 0, none⟩ 3 = _ := World.cellsAt_block (show (V18.alloc (.cells #[.int .i64 0, .slice a1 m1 d1, .slice a2 m2 d2] 45)).drew.heap[V18.heap.size]? = _ by rw [heap_drew0]; exact heap_alloc_new V18 (.cells #[.int .i64 0, .slice a1 m1 d1, .slice a2 m2 d2] 45)) 3 rfl
      have hb2 := Grew.heap hgE HE.out.2.1
      have hb3 := Grew.heap hgE HE.out.2.2.1
      have hA8 := Grew.heap hgE HE.out.2.2.2.1
      have HBB := Lib.hid (And.intro hb2 (And.intro hb3 (And.intro hA8 hgE)))
      have HBE : Hid (B2 < V18.heap.size ∧ B3 < V18.heap.size) := Lib.hid ⟨(Array.getElem?_eq_some_iff.1 HE.out.2.1).1, (Array.getElem?_eq_some_iff.1 HE.out.2.2.1).1⟩
      clear hb2 hb3 hA8 hgE
      generalize (V18.alloc (.cells #[.int .i64 0, .slice a1 m1 d1, .slice a2 m2 d2] 45)) = W7 at *
      generalize hEE : V18.heap.size = E at *
      have HEE := Lib.hid hEE
      clear hEE
      have hps : ((pcells [.int .i64 x1, .int .i64 x2, .int .i64 x3, .int .i64 x4, .int .i64 x5, .int .i64 x6, .slice arb nnb cpb, .slice ar8 x8.length cp8, .slice ar9 x9.length cp9] (rz rs) [.slice ar11 x11.length cp11, .slice ar12 x12.length cp12, .bool false, .int .i64 i0, .int .i64 i1, .int .i64 i2, .slice aro nno cpo])).size = 160 := pc_size rfl HZR.out rfl
      have hon : ((pcells [.int .i64 x1, .int .i64 x2, .int .i64 x3, .int .i64 x4, .int .i64 x5, .int .i64 x6, .slice arb nnb cpb, .slice ar8 x8.length cp8, .slice ar9 x9.length cp9] (rz rs) [.slice ar11 x11.length cp11, .slice ar12 x12.length cp12, .bool false, .int .i64 i0, .int .i64 i1, .int .i64 i2, .slice aro nno cpo])).all (·.oneCell') = true := by simp [pcells, Value.oneCell']
      obtain ⟨pcs, hpcs⟩ : ∃ pcs, pcs = ((pcells [.int .i64 x1, .int .i64 x2, .int .i64 x3, .int .i64 x4, .int .i64 x5, .int .i64 x6, .slice arb nnb cpb, .slice ar8 x8.length cp8, .slice ar9 x9.length cp9] (rz rs) [.slice ar11 x11.length cp11, .slice ar12 x12.length cp12, .bool false, .int .i64 i0, .int .i64 i1, .int .i64 i2, .slice aro nno cpo])) := ⟨_, rfl⟩
      have HAA := HBB.out.2.2.1
      rw [← hpcs] at hps hon HAA
      have HPS := Lib.hid hps
      have HON := Lib.hid hon
      have HPC := Lib.hid hpcs
      have hra := range_all HAA
      have HA8 := Lib.hid HAA
      clear hps hon hpcs HAA
      refine wp_region_held_drew (S := fun w' => w'.cellsAt ⟨E, 0, none⟩ 3 = some [.int .i64 0, .slice a1 m1 d1, .slice a2 m2 d2] ∧ w'.rangeAt A 0 pcs.toList) (by kernel_rfl) ⟨by exact xE, by exact hra⟩ (fun hHeld => ?_)
      generalize W7.drew = W8 at *
      refine wpAnyH_take (i := 0) (v := .agg pcs) rfl (by kernel_rfl) (by kernel_rfl) (by kernel_rfl) (by exact fun _ _ _ h => h) (yieldsIf_load_mid (by rfl) 41 _ rfl A 0 rfl pcs.toList _ (fun w h => h.2) Tryz.underlying41 rfl (by rw [Array.length_toList, HPS.out]; exact info_parts)) (by assumption) ?_
      try simp only [Act.put, List.setIfInBounds_toArray, List.set_cons_zero, List.set_cons_succ]
      refine wpAnyH_take (i := 1) (v := ?_) rfl (by kernel_rfl) (by kernel_rfl) (by kernel_rfl) (by first | exact fun _ _ _ h => h | exact fun _ _ _ h => HQP _ _ _ _ (by rfl) h) (Or.inl ⟨by rfl, ?_⟩) (by assumption) ?_
      rotate_left 1
      · (intro w hSw; (try dsimp only at hSw); go_simp; (try with_reducible rfl))
      (try simp only [List.getElem_toArray, List.getElem_cons_zero, List.getElem_cons_succ])
      (try simp only [Act.put, List.setIfInBounds_toArray, List.set_cons_zero, List.set_cons_succ])
      refine wpAnyH_ready (rs := [2]) (by kernel_rfl) (by simp) ?_
      refine AllReadyH.cons rfl (fun K hK => ?_) AllReadyH.nil
      refine stepStore (by rfl) 41 (.tmp 2) (.tmp 150) (by rfl) B2 0 pcs (by rfl) (by rfl) (by rw [HPS.out]; have := HBB.out.1; exact there_mid this 0 160 (by rw [zparts_size]; decide)) (by rw [HPS.out]; exact info_parts) HON.out ?_
      have hg9 : GrewX [B2] W8 (W8.setCells B2 0 pcs.toList) := setCells_gx _ _ _
      have hE9 : (W8.setCells B2 0 pcs.toList).cellsAt ⟨E, 0, none⟩ 3 = some [.int .i64 0, .slice a1 m1 d1, .slice a2 m2 d2] := cells_past hg9 xE (by decide) (by have := HBE.out; simp; omega)
      have hB9 : (W8.setCells B2 0 pcs.toList).heap[B2]? = some (.cells pcs 41 (0, 0)) := by
        have := setCells_own pcs.toList W8 0 _ HBB.out.1
        rwa [putA_all _ _ (zparts_size.trans (HPS.out).symm)] at this
      have hC9 := hg9.heap HBB.out.2.1 (by simp; omega)
      have hA9 := hg9.heap HA8.out (by simp; omega)
      have hR9 := range_all hA9
      skip
      refine hK.out _ _ ⟨hE9, hR9⟩ (fun _ => ?_)
      clear hK K
      (try simp only [Act.put, List.setIfInBounds_toArray, List.set_cons_zero, List.set_cons_succ])
      have HW9 := Lib.hid (And.intro hg9 (And.intro hB9 hC9))
      clear hg9 hB9 hC9
      generalize W8.setCells B2 0 pcs.toList = W9 at *
      refine wpAnyH_ready (rs := [3]) (by kernel_rfl) (by simp) ?_
      refine AllReadyH.cons rfl (fun K hK => ?_) AllReadyH.nil
      refine stepStore (by rfl) 45 (.tmp 3) (.tmp 151) (by rfl) B3 0 #[.int .i64 0, .slice a1 m1 d1, .slice a2 m2 d2] (by rfl) (by rfl) (by exact there_mid HW9.out.2.2 0 3 (by decide)) (by kernel_rfl) (by simp [Value.oneCell']) ?_
      have hg10 : GrewX [B3] W9 (W9.setCells B3 0 (#[.int .i64 0, .slice a1 m1 d1, .slice a2 m2 d2] : Array Value).toList) := setCells_gx _ _ _
      have hE10 : (W9.setCells B3 0 (#[.int .i64 0, .slice a1 m1 d1, .slice a2 m2 d2] : Array Value).toList).cellsAt ⟨E, 0, none⟩ 3 = some [.int .i64 0, .slice a1 m1 d1, .slice a2 m2 d2] := cells_past hg10 hE9 (by decide) (by have := HBE.out; have := HEE.out; simp; omega)
      have hB10 := hg10.heap HW9.out.2.1 (by simp; omega)
      have hC10 : (W9.setCells B3 0 (#[.int .i64 0, .slice a1 m1 d1, .slice a2 m2 d2] : Array Value).toList).heap[B3]? = some (.cells #[.int .i64 0, .slice a1 m1 d1, .slice a2 m2 d2] 45 (0, 0)) := by
        have := setCells_own (#[.int .i64 0, .slice a1 m1 d1, .slice a2 m2 d2] : Array Value).toList W9 0 _ HW9.out.2.2
        rwa [putA_all #[.int .i64 0, .slice none 0 0, .slice none 0 0] #[.int .i64 0, .slice a1 m1 d1, .slice a2 m2 d2] rfl] at this
      have hR10 := range_all (hg10.heap hA9 (by simp; omega))
      refine hK.out _ _ ⟨hE10, hR10⟩ (fun _ => ?_)
      clear hK K
      (try simp only [Act.put, List.setIfInBounds_toArray, List.set_cons_zero, List.set_cons_succ])
      have HW10 := Lib.hid (And.intro hg10 (And.intro hB10 hC10))
      clear hg10 hB10 hC10 hE9 hE10
      generalize W9.setCells B3 0 (#[.int .i64 0, .slice a1 m1 d1, .slice a2 m2 d2] : Array Value).toList = W10 at *
      refine wpAnyH_done (by kernel_rfl) ?_ _
      go_wp2_with fail
      obtain ⟨hbad, hno0⟩ := HV.out.zero
      have hgx : GrewX [B2, B3] V18 W10 := (((GrewX.of_grew HBB.out.2.2.2).trans (HW9.out.1.mono (by simp))).trans (HW10.out.1.mono (by simp)))
      have hl2 := run_loadVar_mid (P := Tryz.prog) W10 B2 0 41 pcs.toList _ (range_all HW10.out.2.1) Tryz.underlying41 rfl (by rw [Array.length_toList, HPS.out]; exact info_parts)
      have hl3 := run_loadVar_mid (P := Tryz.prog) W10 B3 0 45 (#[.int .i64 0, .slice a1 m1 d1, .slice a2 m2 d2] : Array Value).toList _ (range_all HW10.out.2.2) Tryz.underlying45 rfl (by kernel_rfl)
      refine bodyPost_ret (v := .tuple #[.agg pcs, noV 0 a1 m1 d1 a2 m2 d2]) ?hresZf rfl ?hbothZf
      rotate_left 1
      · refine And.intro ?hgrewZf ?hpostZf
        case hgrewZf => exact hgx.toGrew (HE.out.1.toGrew HB.out.2.2 (by have := HN.out; simp <;> omega)) (by have := HN.out; simp <;> omega)
        rw [HLE.out, hno0]
        refine DPartsV.none hbad rfl ?_
        obtain ⟨⟨⟨⟨⟨fb, fa⟩, fh⟩, fd⟩, fu⟩, fo⟩ := HE.out.2.2.2.2 W10 (hgx.mono (by simp))
        exact ⟨_, _, _, _, _, _, (by first | (rw [HPC.out]; done) | (rw [HPC.out]; rfl)), HZR.out, fb, fa, fh, fd, fu, fo⟩
      · simp [results, Tryz.results5, Sem.run_bind, Sem.run_pure, asAddr, Act.put, hl2, hl3]
end
end Go.Proofs.YtnhmekdnfinmiaaGreatDoor
