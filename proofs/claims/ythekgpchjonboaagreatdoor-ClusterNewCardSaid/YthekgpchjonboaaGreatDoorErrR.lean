/- Walks: an error held against a refusal of the document's; the document's own refusals. -/
import Derived.Test.YthekgpchjonboaaGreatDoorErrK
namespace Go
open Go.RowKit
/-- append of another slice, at a step of a region that draws its order. -/
theorem step_apps {P : Program} {ops : Array Oper} {o : Oper} {a : Act} {w : World} {K : Act → World → Prop} {Q : Exit → Act → World → Prop} {E : Prop} (hgd : o.guard = none) (s x : Operand) (t : TypeId)
    (ho : o.op = .call { callee := .builtin .append, args := #[s, x], argTypes := #[t, t] })
    {e : TypeId} {size bytes : Nat} (hE : Elem P t e size bytes) (base : Nat) (v : Value) (n : Nat) (xs : List Value) (hs : a.eval s = v) (hown : w.ownsRow base e size v n xs)
    (ad : Option Addr) (m c : Nat) (news : List Value) (hx : a.eval x = .slice ad m c) (hin : CellsIn w ad news) (hl : news.length = m * size) (h1 : ∀ u ∈ news, u.oneCell' = true) (had : ad = none → m = 0 ∧ c = 0)
    (hbytes : (n + m) * bytes ≤ 140737488355328) (h63 : n + m ≤ maxLen) (W0 : World) (hg0 : Grew W0 w) (h00 : W0.heap.size ≤ base) (hbase : base ≤ w.heap.size)
    (h : ∀ ar cap w1, Grew W0 w1 → w1.ownsRow base e size (.slice ar (n + m) cap) (n + m) (xs ++ news) → (∀ k, k < w.heap.size → some k ≠ v.ownBlock → w1.heap[k]? = w.heap[k]?) → w.heap.size ≤ w1.heap.size → K (a.put o.dst (.slice ar (n + m) cap)) w1) :
    if Region.wanted o (yielded ops a.tmps) = true then Oper.wp P o a w K Q else E := by
  have hw : Region.wanted o (yielded ops a.tmps) = true := by simp [Region.wanted, hgd]
  rw [if_pos hw]
  obtain ⟨ht, i, z, hi, hz, hsz, hby, hzs, h0⟩ := hE
  cases ad with
  | none =>
    obtain ⟨rfl, rfl⟩ := had rfl
    have hnil : news = [] := List.eq_nil_of_length_eq_zero (by simpa using hl)
    subst hnil
    have hr := run_append_owned_none (P := P) w base t o.type e i size ht hi v n xs hown
    obtain ⟨ar, cap, rfl, _⟩ := hown.rd
    unfold Oper.wp execOp
    simp only [ho, resolve, invoke, builtin, Sem.run_bind, Sem.run_pure, Result.andThen_ok, List.map_toArray, List.map_cons, List.map_nil, hs, hx, hr]
    exact h ar cap w hg0 (by simpa using hown) (fun _ _ _ => rfl) (Nat.le_refl _)
  | some ad =>
    obtain ⟨v', w1, hr, hown1, hgrow, _⟩ := run_append_own (P := P) w base t o.type e i z size bytes ht hi hz hsz hby hzs h0 v n xs hown ad m c news hl (fun j u hu => by
      have hj : j < news.length := (List.getElem?_eq_some_iff.1 hu).1
      obtain ⟨b, off, ha, _, hc⟩ := hin.at' (by omega)
      cases ha
      have := hc j hj
      rw [← hu, List.getElem?_eq_getElem hj, ← this]
      congr 1
      unfold Addr.add; split <;> simp_all) h1 h63 hbytes hbase
    obtain ⟨ar, cap, rfl, _⟩ := hown1.rd
    unfold Oper.wp execOp
    simp only [ho, resolve, invoke, builtin, Sem.run_bind, Sem.run_pure, Result.andThen_ok, List.map_toArray, List.map_cons, List.map_nil, hs, hx, hr]
    exact h ar cap w1 (hg0.grown hgrow (fun k hk => by have := (hown.lt k hk).1; omega)) hown1 hgrow.block hgrow.size
end Go
namespace Go.Proofs.YthekgpchjonboaaGreatDoor
open Go.RowKit
set_option linter.unusedSimpArgs false
set_option linter.unusedVariables false

theorem len_link (x : Link) : (linkRow x).length = 3 := rfl

set_option maxRecDepth 100000 in
set_option maxHeartbeats 1000000 in
theorem links_eq (a b : Option Addr) (ca cb : Nat) (xs : List Link) (w : World) (ha : CellsIn w a (linkCells xs)) (hb : CellsIn w b (linkCells xs)) (hca : xs.length ≤ ca) (hcb : xs.length ≤ cb) (hma : ca ≤ 9223372036854775807) (hmb : cb ≤ 9223372036854775807) :
    Calls Tryz.prog 20 #[.slice a xs.length ca, .slice b xs.length cb] w fun e w' => e = .returned (.bool true) ∧ Grew w w' := by
  have Ha := Lib.hid ha
  have Hb := Lib.hid hb
  clear ha hb
  go_enter Tryz.func20, Tryz.ntmps20
  go_wp2_with fail
  go_loopw [5] (fun i wr => ∃ k : Nat, k ≤ xs.length ∧ i = .int .i64 k ∧ Grew w wr) (fun i _ => xs.length - (intOf i).toNat)
  case atStart => exact ⟨0, by omega, rfl, Grew.refl _⟩
  case round =>
    obtain ⟨k, hk, rfl, hg⟩ := hrel
    have HG := Lib.hid hg
    by_cases hlt : k < xs.length
    · obtain ⟨b1, o1, rfl, hb1, hr1⟩ := (Ha.out.grew hg).rowAt _ 3 len_link (by omega) (by omega)
      obtain ⟨b2, o2, rfl, hb2, hr2⟩ := (Hb.out.grew hg).rowAt _ 3 len_link (by omega) (by omega)
      have h1 := hr1 k hlt
      have h2 := hr2 k hlt
      clear hr1 hr2 hg
      generalize xs[k] = s at *
      obtain ⟨sl, sc, si⟩ := s
      simp only [linkRow] at h1 h2
      go_wp2_with fail
      refine wp_region_plus (by kernel_rfl) (by kernel_rfl) ?_
      repeat (go_big_quiet_step ((first | fail)))
      refine wpQuiet_nil ?_
      intro _ hw'
      obtain ⟨nx, rfl⟩ := hw'
      go_wp2_with fail
      go_roundw
      case measure => simp [intOf]; omega
      case rel => exact ⟨k + 1, by omega, by go_num, by repeat (first | with_reducible exact HG.out | with_reducible exact Grew.refl _ | with_reducible assumption | with_reducible apply Grew.plus | with_reducible apply Grew.drewN | with_reducible apply Grew.drew | with_reducible apply Grew.alloc | with_reducible refine Grew.setCell ?_ (by simp [go_sem]; try omega) _)⟩
    · obtain rfl : k = xs.length := by omega
      go_wp2_with fail
      go_ret
      exact ⟨rfl, by repeat (first | with_reducible exact HG.out | with_reducible exact Grew.refl _ | with_reducible assumption | with_reducible apply Grew.plus | with_reducible apply Grew.drewN | with_reducible apply Grew.drew | with_reducible apply Grew.alloc | with_reducible refine Grew.setCell ?_ (by simp [go_sem]; try omega) _)⟩

set_option maxRecDepth 100000 in
set_option maxHeartbeats 1000000 in
theorem ints_eq (a b : Option Addr) (ca cb : Nat) (xs : List Int) (w : World) (ha : CellsIn w a (xs.map (Value.int .i64))) (hb : CellsIn w b (xs.map (Value.int .i64))) (hca : xs.length ≤ ca) (hcb : xs.length ≤ cb) (hma : ca ≤ 9223372036854775807) (hmb : cb ≤ 9223372036854775807) :
    Calls Tryz.prog 22 #[.slice a xs.length ca, .slice b xs.length cb] w fun e w' => e = .returned (.bool true) ∧ Grew w w' := by
  have Ha := Lib.hid ha
  have Hb := Lib.hid hb
  clear ha hb
  go_enter Tryz.func22, Tryz.ntmps22
  go_wp2_with fail
  go_loopw [5] (fun i wr => ∃ k : Nat, k ≤ xs.length ∧ i = .int .i64 k ∧ Grew w wr) (fun i _ => xs.length - (intOf i).toNat)
  case atStart => exact ⟨0, by omega, rfl, Grew.refl _⟩
  case round =>
    obtain ⟨k, hk, rfl, hg⟩ := hrel
    have HG := Lib.hid hg
    by_cases hlt : k < xs.length
    · obtain ⟨b1, o1, rfl, hb1, hr1⟩ := (Ha.out.grew hg).at' (by rw [List.length_map]; omega)
      obtain ⟨b2, o2, rfl, hb2, hr2⟩ := (Hb.out.grew hg).at' (by rw [List.length_map]; omega)
      have h1 := hr1 k (by rw [List.length_map]; omega)
      have h2 := hr2 k (by rw [List.length_map]; omega)
      rw [List.getElem_map] at h1 h2
      clear hr1 hr2 hg
      generalize xs[k] = s at *
      go_wp2_with fail
      refine wp_region_plus (by kernel_rfl) (by kernel_rfl) ?_
      repeat (go_big_quiet_step ((first | fail)))
      refine wpQuiet_nil ?_
      intro _ hw'
      obtain ⟨nx, rfl⟩ := hw'
      go_wp2_with fail
      go_roundw
      case measure => simp [intOf]; omega
      case rel => exact ⟨k + 1, by omega, by go_num, by repeat (first | with_reducible exact HG.out | with_reducible exact Grew.refl _ | with_reducible assumption | with_reducible apply Grew.plus | with_reducible apply Grew.drewN | with_reducible apply Grew.drew | with_reducible apply Grew.alloc | with_reducible refine Grew.setCell ?_ (by simp [go_sem]; try omega) _)⟩
    · obtain rfl : k = xs.length := by omega
      go_wp2_with fail
      go_ret
      exact ⟨rfl, by repeat (first | with_reducible exact HG.out | with_reducible exact Grew.refl _ | with_reducible assumption | with_reducible apply Grew.plus | with_reducible apply Grew.drewN | with_reducible apply Grew.drew | with_reducible apply Grew.alloc | with_reducible refine Grew.setCell ?_ (by simp [go_sem]; try omega) _)⟩

/-- A refusal of the document's, as a value. -/
abbrev noV (code : Int) (a : Option Addr) (n ca : Nat) (b : Option Addr) (m cb : Nat) : Value := .agg #[.int .i64 code, .slice a n ca, .slice b m cb]

theorem nats_ints (l : List Nat) : nats l = (l.map (fun n : Nat => (n : Int))).map (Value.int .i64) := by simp [nats]

theorem ints_any (a b : Option Addr) (ca cb : Nat) (xs : List Nat) (w : World) (ha : CellsIn w a (nats xs)) (hb : CellsIn w b (nats xs)) (hca : xs.length ≤ ca) (hcb : xs.length ≤ cb) (hma : ca ≤ 9223372036854775807) (hmb : cb ≤ 9223372036854775807) :
    Calls Tryz.prog 22 #[.slice a xs.length ca, .slice b xs.length cb] w fun e w' => e = .returned (.bool true) ∧ Grew w w' := by
  rw [nats_ints] at ha hb
  have h := ints_eq a b ca cb (xs.map fun n : Nat => (n : Int)) w ha hb (by simpa using hca) (by simpa using hcb) hma hmb
  rwa [List.length_map] at h

theorem refused_none (a b : Option Addr) (n ca m cb : Nat) (w : World) :
    Calls Tryz.prog 6 #[.nilIface, noV 0 a n ca b m cb] w fun e w' => e = .returned (.bool true) ∧ Grew w w' := by
  go_enter Tryz.func6, Tryz.ntmps6
  go_wp2_with fail
  go_ret
  exact ⟨rfl, by repeat (first | with_reducible exact HG.out | with_reducible exact Grew.refl _ | with_reducible assumption | with_reducible apply Grew.plus | with_reducible apply Grew.drewN | with_reducible apply Grew.drew | with_reducible apply Grew.alloc | with_reducible refine Grew.setCell ?_ (by simp [go_sem]; try omega) _)⟩

set_option maxRecDepth 100000 in
set_option maxHeartbeats 4000000 in
theorem refused_some {S : Nat → Addr} {w : World} (hS : Sents S w) {e : Err} {v : Value} (he : ErrAt S w e v) (hs : e.size ≤ 1000000000000) (h0 : e ≠ .none) (hz : e.code ≠ 0) (a b : Option Addr) (ca cb : Nat) (ha : CellsIn w a (linkCells e.chain)) (hb : CellsIn w b (nats e.codes))
    (hca : e.chain.length ≤ ca) (hcb : e.codes.length ≤ cb) (hma : ca ≤ 9223372036854775807) (hmb : cb ≤ 9223372036854775807) :
    Calls Tryz.prog 6 #[v, noV e.code a e.chain.length ca b e.codes.length cb] w fun x w' => x = .returned (.bool true) ∧ Grew w w' := by
  have hv : ∃ t u, v = .iface t u := by cases he <;> first | exact absurd rfl h0 | exact ⟨_, _, rfl⟩
  obtain ⟨t, u, rfl⟩ := hv
  have hzi : ((e.code : Int) = 0) = False := by simp [hz]
  have CC := Lib.hid (fun W (hg : Grew w W) => code_any (hS.grew hg) (he.grew hg) hs)
  have CS := Lib.hid (fun W (hg : Grew w W) => codes_any (hS.grew hg) (he.grew hg) hs)
  have CH := Lib.hid (fun W (hg : Grew w W) => chain_any (he.grew hg) hs)
  have HA := Lib.hid ha
  have HB := Lib.hid hb
  generalize e.code = code at *
  generalize e.chain = ch at *
  generalize e.codes = co at *
  generalize hbox : w.alloc (.cells #[.int .i64 code, .slice a ch.length ca, .slice b co.length cb] 33) = wb
  have hgb : Grew w wb := by rw [← hbox]; exact (Grew.refl w).alloc _
  have hb0 : wb.heap[w.heap.size]? = some (.cells #[.int .i64 code, .slice a ch.length ca, .slice b co.length cb] 33 (0, 0)) := by rw [← hbox]; exact heap_alloc_new w _
  have hcc := fun i u hu W (hW : Grew wb W) => (World.own_cell (Grew.heap hW hb0) i u hu).1
  have HCC := Lib.hid hcc
  have c0 : ∀ gx, (wb.plus gx).cell? ⟨w.heap.size, 0, none⟩ = some (.int .i64 code) := fun gx => HCC.out 0 _ rfl _ ((Grew.refl wb).plus gx)
  have c0' : wb.cell? ⟨w.heap.size, 0, none⟩ = some (.int .i64 code) := HCC.out 0 _ rfl _ (Grew.refl wb)
  have HGB := Lib.hid hgb
  clear hS he ha hb hb0 hcc hgb h0
  go_enter Tryz.func6, Tryz.ntmps6
  go_wp2_with fail
  refine wp_region_plus (by kernel_rfl) (by kernel_rfl) ?_
  repeat (go_big_quiet_step ((first | (go_at_call 19; exact Calls.grew_of (CC.out _ (HGB.out.plus _))))))
  refine wpQuiet_nil ?_
  intro _ hw'
  obtain ⟨nx, rfl⟩ := hw'
  go_wp2_with fail
  have HP : Hid (Grew wb (wb.plus nx)) := ⟨nx, rfl⟩
  generalize wb.plus nx = w5 at *
  have HS5 : ∀ W, Grew w5 W → W.cell? ⟨w.heap.size, 1, none⟩ = some (.slice a ch.length ca) ∧ W.cell? ⟨w.heap.size, 2, none⟩ = some (.slice b co.length cb) := fun W hW => ⟨HCC.out 1 _ rfl _ (HP.out.trans hW), HCC.out 2 _ rfl _ (HP.out.trans hW)⟩
  have HS := Lib.hid HS5
  have HG5 := Lib.hid (HGB.out.trans HP.out)
  have HCI := Lib.hid (nats_ints co)
  clear HS5 c0 c0' hbox
  go_region_held3 (fun w' => w'.cell? ⟨w.heap.size, 1, none⟩ = some (.slice a ch.length ca) ∧ w'.cell? ⟨w.heap.size, 2, none⟩ = some (.slice b co.length cb)) (first | exact HS.out _ HG4.out | exact HS.out _ HG3.out | exact HS.out _ HG2.out | exact HS.out _ HG1.out | exact HS.out _ (by repeat (first | with_reducible exact HG.out | with_reducible exact Grew.refl _ | with_reducible assumption | with_reducible apply Grew.plus | with_reducible apply Grew.drewN | with_reducible apply Grew.drew | with_reducible apply Grew.alloc | with_reducible refine Grew.setCell ?_ (by simp [go_sem]; try omega) _))) (first
    | (go_at_call 21; refine (CH.out _ (HG5.out.trans (by repeat (first | with_reducible exact HG.out | with_reducible exact Grew.refl _ | with_reducible assumption | with_reducible apply Grew.plus | with_reducible apply Grew.drewN | with_reducible apply Grew.drew | with_reducible apply Grew.alloc | with_reducible refine Grew.setCell ?_ (by simp [go_sem]; try omega) _)))).mono ?_; rintro x w1 ⟨s1, rfl, ho1, hg1⟩; obtain ⟨a1, c1, rfl, hn1, hm1, hin1, _, _⟩ := ho1.rd; have HI1 := Lib.hid hin1; have HG1 := Lib.hid (Grew.trans (by repeat (first | with_reducible exact HG.out | with_reducible exact Grew.refl _ | with_reducible assumption | with_reducible apply Grew.plus | with_reducible apply Grew.drewN | with_reducible apply Grew.drew | with_reducible apply Grew.alloc | with_reducible refine Grew.setCell ?_ (by simp [go_sem]; try omega) _)) hg1); clear ho1 hin1 hg1)
    | (go_at_call 20; refine (links_eq a1 a c1 ca ch _ HI1.out (HA.out.grew (HG5.out.trans HG1.out)) hn1 hca hm1 hma).mono ?_; rintro x w2 ⟨rfl, hg2⟩; have HG2 := Lib.hid (HG1.out.trans hg2); clear hg2)
    | (go_at_call 23; refine (CS.out _ (HG5.out.trans HG2.out)).mono ?_; rintro x w3 ⟨s3, rfl, ho3, hg3⟩; obtain ⟨a3, c3, rfl, hn3, hm3, hin3, _, _⟩ := ho3.rd; have HI3 := Lib.hid hin3; have HG3 := Lib.hid (HG2.out.trans hg3); clear ho3 hin3 hg3)
    | (go_at_call 22; refine (ints_any a3 b c3 cb co _ HI3.out (HB.out.grew (HG5.out.trans HG3.out)) hn3 hcb hm3 hmb).mono ?_; rintro x w4 ⟨rfl, hg4⟩; have HG4 := Lib.hid (HG3.out.trans hg4); clear hg4))
  go_wp2_with fail
  go_ret
  exact ⟨rfl, HG5.out.trans HG4.out⟩
theorem wrap_world (w : World) {w3 : World} (c1 c2 : Array Value) (c3 : Array Value) (h : ((w.alloc (.cells c1 33)).alloc (.cells c2 33)).alloc (.cells c3 133) = w3) (h3 : c3.size = 3 := by rfl) :
    Grew w w3 ∧ w3.heap[w.heap.size]? = some (.cells c1 33 (0, 0)) ∧ w3.heap[w.heap.size + 1]? = some (.cells c2 33 (0, 0)) ∧ w3.ownsRow w.heap.size 133 3 (.slice (some ⟨w.heap.size + 1 + 1, 0, none⟩) 1 1) 1 c3.toList ∧ w3.heap.size = w.heap.size + 3 := by
  subst h
  have h1 : ∀ (W : World) (o : Obj), (W.alloc o).heap.size = W.heap.size + 1 := fun W o => by simp [go_sem]
  refine ⟨(((Grew.refl w).alloc _).alloc _).alloc _, ?_, ?_, ?_, by rw [h1, h1, h1]⟩
  · rw [heap_alloc_past _ _ _ (by rw [h1, h1]; omega), heap_alloc_past _ _ _ (by rw [h1]; omega), heap_alloc_new]
  · rw [heap_alloc_past _ _ _ (by rw [h1, h1]; omega), heap_alloc_at _ _ _ (by rw [h1])]
  · have := World.ownsRow_lit (base := w.heap.size) (size := 3) (e := 133) ((w.alloc (.cells c1 33)).alloc (.cells c2 33)) c3 1 (by rw [h1, h1]; omega) (by decide) h3
    rwa [h1, h1] at this

set_option maxRecDepth 100000 in
set_option maxHeartbeats 4000000 in
theorem wrap_some (l c : ByteArray) (i : Int) (code : Int) (h0 : code ≠ 0) (xs : List Link) (a b : Option Addr) (ca n cb : Nat) (w : World) (ha : CellsIn w a (linkCells xs)) (hn : a = none → xs.length = 0 ∧ ca = 0) (hl : xs.length ≤ 1000000000000) :
    Calls Tryz.prog 17 #[.string l, .string c, .int .i64 i, noV code a xs.length ca b n cb] w fun e w' => ∃ ar cp, e = .returned (noV code ar (1 + xs.length) cp b n cb) ∧ w'.ownsRow w.heap.size 133 3 (.slice ar (1 + xs.length) cp) (1 + xs.length) (linkCells ((l, c, max i (-1)) :: xs)) ∧ Grew w w' := by
  have hzi : (code = 0) = False := by simp [h0]
  have HA := Lib.hid ha
  have HN := Lib.hid hn
  clear ha hn
  by_cases hi : i < 0
  · rw [show max i (-1) = -1 by omega]
    go_enter Tryz.func17, Tryz.ntmps17
    go_wp2_with fail
    generalize hw3 : (((w.alloc (.cells #[.int .i64 code, .slice a xs.length ca, .slice b n cb] 33)).alloc (.cells #[.int .i64 0, .slice none 0 0, .slice none 0 0] 33)).alloc (.cells #[.string l, .string c, .int .i64 (-1)] 133)) = w3
    obtain ⟨hg3, hb1, hb2, ho3, hs3⟩ := wrap_world w _ _ _ hw3
    have HG3 := Lib.hid hg3
    have HO3 := Lib.hid ho3
    have HX := Lib.hid (fun i u hu => (World.own_cell hb1 i u hu).1)
    have HB1 := Lib.hid hb1
    have HB2 := Lib.hid hb2
    clear hg3 hb1 hb2 ho3 hw3
    go_region_held3 (fun w' => w'.cell? ⟨w.heap.size, 0, none⟩ = some (.int .i64 code) ∧ w'.cell? ⟨w.heap.size, 1, none⟩ = some (.slice a xs.length ca) ∧ w'.cell? ⟨w.heap.size, 2, none⟩ = some (.slice b n cb)) (first | exact ⟨HX4.out 0 _ rfl, HX4.out 1 _ rfl, HX4.out 2 _ rfl⟩ | exact ⟨HX.out 0 _ rfl, HX.out 1 _ rfl, HX.out 2 _ rfl⟩ | (simp [go_sem, x0, x1, x2]; done)) (first
      | (refine step_apps rfl _ _ 30 (by rfl) elLink w.heap.size _ 1 [.string l, .string c, .int .i64 (-1)] (by rfl) (HO3.out.grew (by repeat (first | with_reducible exact HG.out | with_reducible exact Grew.refl _ | with_reducible assumption | with_reducible apply Grew.plus | with_reducible apply Grew.drewN | with_reducible apply Grew.drew | with_reducible apply Grew.alloc | with_reducible refine Grew.setCell ?_ (by simp [go_sem]; try omega) _))) a xs.length ca (linkCells xs) (by rfl) (HA.out.grew (HG3.out.trans (by repeat (first | with_reducible exact HG.out | with_reducible exact Grew.refl _ | with_reducible assumption | with_reducible apply Grew.plus | with_reducible apply Grew.drewN | with_reducible apply Grew.drew | with_reducible apply Grew.alloc | with_reducible refine Grew.setCell ?_ (by simp [go_sem]; try omega) _)))) (flat_length _ 3 len_link _) (linkCells_one _) HN.out (by omega) (by unfold maxLen; omega) w (HG3.out.trans (by repeat (first | with_reducible exact HG.out | with_reducible exact Grew.refl _ | with_reducible assumption | with_reducible apply Grew.plus | with_reducible apply Grew.drewN | with_reducible apply Grew.drew | with_reducible apply Grew.alloc | with_reducible refine Grew.setCell ?_ (by simp [go_sem]; try omega) _))) (Nat.le_refl _) (by have := hs3; simp [go_sem]; omega) ?_; intro ar cp w4 hg4 hown4 hkeep4 hsz4; have hb14 := World.kept_block hkeep4 (Grew.heap (by repeat (first | with_reducible exact HG.out | with_reducible exact Grew.refl _ | with_reducible assumption | with_reducible apply Grew.plus | with_reducible apply Grew.drewN | with_reducible apply Grew.drew | with_reducible apply Grew.alloc | with_reducible refine Grew.setCell ?_ (by simp [go_sem]; try omega) _)) HB1.out) (by simp [Value.ownBlock]; omega); have hb24 := World.kept_block hkeep4 (Grew.heap (by repeat (first | with_reducible exact HG.out | with_reducible exact Grew.refl _ | with_reducible assumption | with_reducible apply Grew.plus | with_reducible apply Grew.drewN | with_reducible apply Grew.drew | with_reducible apply Grew.alloc | with_reducible refine Grew.setCell ?_ (by simp [go_sem]; try omega) _)) HB2.out) (by simp [Value.ownBlock] <;> omega); have HX4 := Lib.hid (fun i u hu => (World.own_cell hb14 i u hu).1); have HB24 := Lib.hid hb24; have r0 := World.own_cell hb24 0 _ rfl; have r1 := World.own_cell hb24 1 _ rfl; have r2 := World.own_cell hb24 2 _ rfl; obtain ⟨r00, r01⟩ := r0; obtain ⟨r10, r11⟩ := r1; obtain ⟨r20, r21⟩ := r2; have x0 := HX4.out 0 _ rfl; have x1 := HX4.out 1 _ rfl; have x2 := HX4.out 2 _ rfl; have HG4 := Lib.hid hg4; have HO4 := Lib.hid hown4; clear hkeep4 hb14 hb24 hg4 hown4))
    go_wp2_with fail
    have hne : (Value.slice ar (1 + xs.length) cp).ownBlock ≠ some (w.heap.size + 1) := by
      rcases HO4.out.2 with ⟨h, _⟩ | ⟨g, cap, cur, h, hb, hg, _⟩
      · rw [h]; simp [Value.ownBlock]
      · rw [h]; simp only [Value.ownBlock, ne_eq, Option.some.injEq]; rintro rfl; rw [HB24.out] at hg; simp at hg
    have k1 := World.own_setCell (i := 0) HB24.out (.int .i64 code)
    have k2 := World.own_setCell (i := 1) k1 (.slice ar (1 + xs.length) cp)
    have k3 := World.own_setCell (i := 2) k2 (.slice b n cb)
    have f0 := (World.own_cell k3 0 (.int .i64 code) rfl).1
    have f1 := (World.own_cell k3 1 (.slice ar (1 + xs.length) cp) rfl).1
    have f2 := (World.own_cell k3 2 (.slice b n cb) rfl).1
    have o5 := ((HO4.out.setOther (i := 0) hne (.int .i64 code)).setOther (i := 1) hne (.slice ar (1 + xs.length) cp)).setOther (i := 2) hne (.slice b n cb)
    have g5 : Grew w _ := ((HG4.out.setCell (p := ⟨w.heap.size + 1, 0, none⟩) (by simp) (.int .i64 code)).setCell (p := ⟨w.heap.size + 1, 1, none⟩) (by simp) (.slice ar (1 + xs.length) cp)).setCell (p := ⟨w.heap.size + 1, 2, none⟩) (by simp) (.slice b n cb)
    clear k1 k2 k3
    generalize ((w4.setCell ⟨w.heap.size + 1, 0, none⟩ (.int .i64 code)).setCell ⟨w.heap.size + 1, 1, none⟩ (.slice ar (1 + xs.length) cp)).setCell ⟨w.heap.size + 1, 2, none⟩ (.slice b n cb) = w5 at *
    exact bodyPost_ret (v := noV code ar (1 + xs.length) cp b n cb) (by simp [results, Tryz.results17, go_sem, f0, f1, f2]) rfl ⟨ar, cp, rfl, o5, g5⟩
  · rw [show max i (-1) = i by omega]
    go_enter Tryz.func17, Tryz.ntmps17
    go_wp2_with fail
    generalize hw3 : (((w.alloc (.cells #[.int .i64 code, .slice a xs.length ca, .slice b n cb] 33)).alloc (.cells #[.int .i64 0, .slice none 0 0, .slice none 0 0] 33)).alloc (.cells #[.string l, .string c, .int .i64 i] 133)) = w3
    obtain ⟨hg3, hb1, hb2, ho3, hs3⟩ := wrap_world w _ _ _ hw3
    have HG3 := Lib.hid hg3
    have HO3 := Lib.hid ho3
    have HX := Lib.hid (fun i u hu => (World.own_cell hb1 i u hu).1)
    have HB1 := Lib.hid hb1
    have HB2 := Lib.hid hb2
    clear hg3 hb1 hb2 ho3 hw3
    go_region_held3 (fun w' => w'.cell? ⟨w.heap.size, 0, none⟩ = some (.int .i64 code) ∧ w'.cell? ⟨w.heap.size, 1, none⟩ = some (.slice a xs.length ca) ∧ w'.cell? ⟨w.heap.size, 2, none⟩ = some (.slice b n cb)) (first | exact ⟨HX4.out 0 _ rfl, HX4.out 1 _ rfl, HX4.out 2 _ rfl⟩ | exact ⟨HX.out 0 _ rfl, HX.out 1 _ rfl, HX.out 2 _ rfl⟩ | (simp [go_sem, x0, x1, x2]; done)) (first
      | (refine step_apps rfl _ _ 30 (by rfl) elLink w.heap.size _ 1 [.string l, .string c, .int .i64 i] (by rfl) (HO3.out.grew (by repeat (first | with_reducible exact HG.out | with_reducible exact Grew.refl _ | with_reducible assumption | with_reducible apply Grew.plus | with_reducible apply Grew.drewN | with_reducible apply Grew.drew | with_reducible apply Grew.alloc | with_reducible refine Grew.setCell ?_ (by simp [go_sem]; try omega) _))) a xs.length ca (linkCells xs) (by rfl) (HA.out.grew (HG3.out.trans (by repeat (first | with_reducible exact HG.out | with_reducible exact Grew.refl _ | with_reducible assumption | with_reducible apply Grew.plus | with_reducible apply Grew.drewN | with_reducible apply Grew.drew | with_reducible apply Grew.alloc | with_reducible refine Grew.setCell ?_ (by simp [go_sem]; try omega) _)))) (flat_length _ 3 len_link _) (linkCells_one _) HN.out (by omega) (by unfold maxLen; omega) w (HG3.out.trans (by repeat (first | with_reducible exact HG.out | with_reducible exact Grew.refl _ | with_reducible assumption | with_reducible apply Grew.plus | with_reducible apply Grew.drewN | with_reducible apply Grew.drew | with_reducible apply Grew.alloc | with_reducible refine Grew.setCell ?_ (by simp [go_sem]; try omega) _))) (Nat.le_refl _) (by have := hs3; simp [go_sem]; omega) ?_; intro ar cp w4 hg4 hown4 hkeep4 hsz4; have hb14 := World.kept_block hkeep4 (Grew.heap (by repeat (first | with_reducible exact HG.out | with_reducible exact Grew.refl _ | with_reducible assumption | with_reducible apply Grew.plus | with_reducible apply Grew.drewN | with_reducible apply Grew.drew | with_reducible apply Grew.alloc | with_reducible refine Grew.setCell ?_ (by simp [go_sem]; try omega) _)) HB1.out) (by simp [Value.ownBlock]; omega); have hb24 := World.kept_block hkeep4 (Grew.heap (by repeat (first | with_reducible exact HG.out | with_reducible exact Grew.refl _ | with_reducible assumption | with_reducible apply Grew.plus | with_reducible apply Grew.drewN | with_reducible apply Grew.drew | with_reducible apply Grew.alloc | with_reducible refine Grew.setCell ?_ (by simp [go_sem]; try omega) _)) HB2.out) (by simp [Value.ownBlock] <;> omega); have HX4 := Lib.hid (fun i u hu => (World.own_cell hb14 i u hu).1); have HB24 := Lib.hid hb24; have r0 := World.own_cell hb24 0 _ rfl; have r1 := World.own_cell hb24 1 _ rfl; have r2 := World.own_cell hb24 2 _ rfl; obtain ⟨r00, r01⟩ := r0; obtain ⟨r10, r11⟩ := r1; obtain ⟨r20, r21⟩ := r2; have x0 := HX4.out 0 _ rfl; have x1 := HX4.out 1 _ rfl; have x2 := HX4.out 2 _ rfl; have HG4 := Lib.hid hg4; have HO4 := Lib.hid hown4; clear hkeep4 hb14 hb24 hg4 hown4))
    go_wp2_with fail
    have hne : (Value.slice ar (1 + xs.length) cp).ownBlock ≠ some (w.heap.size + 1) := by
      rcases HO4.out.2 with ⟨h, _⟩ | ⟨g, cap, cur, h, hb, hg, _⟩
      · rw [h]; simp [Value.ownBlock]
      · rw [h]; simp only [Value.ownBlock, ne_eq, Option.some.injEq]; rintro rfl; rw [HB24.out] at hg; simp at hg
    have k1 := World.own_setCell (i := 0) HB24.out (.int .i64 code)
    have k2 := World.own_setCell (i := 1) k1 (.slice ar (1 + xs.length) cp)
    have k3 := World.own_setCell (i := 2) k2 (.slice b n cb)
    have f0 := (World.own_cell k3 0 (.int .i64 code) rfl).1
    have f1 := (World.own_cell k3 1 (.slice ar (1 + xs.length) cp) rfl).1
    have f2 := (World.own_cell k3 2 (.slice b n cb) rfl).1
    have o5 := ((HO4.out.setOther (i := 0) hne (.int .i64 code)).setOther (i := 1) hne (.slice ar (1 + xs.length) cp)).setOther (i := 2) hne (.slice b n cb)
    have g5 : Grew w _ := ((HG4.out.setCell (p := ⟨w.heap.size + 1, 0, none⟩) (by simp) (.int .i64 code)).setCell (p := ⟨w.heap.size + 1, 1, none⟩) (by simp) (.slice ar (1 + xs.length) cp)).setCell (p := ⟨w.heap.size + 1, 2, none⟩) (by simp) (.slice b n cb)
    clear k1 k2 k3
    generalize ((w4.setCell ⟨w.heap.size + 1, 0, none⟩ (.int .i64 code)).setCell ⟨w.heap.size + 1, 1, none⟩ (.slice ar (1 + xs.length) cp)).setCell ⟨w.heap.size + 1, 2, none⟩ (.slice b n cb) = w5 at *
    exact bodyPost_ret (v := noV code ar (1 + xs.length) cp b n cb) (by simp [results, Tryz.results17, go_sem, f0, f1, f2]) rfl ⟨ar, cp, rfl, o5, g5⟩
end Go.Proofs.YthekgpchjonboaaGreatDoor
