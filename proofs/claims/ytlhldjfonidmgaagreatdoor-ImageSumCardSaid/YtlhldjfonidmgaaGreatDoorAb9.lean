/- append, all ways. -/
import Derived.Test.YtlhldjfonidmgaaGreatDoorAb8
import Derived.Deep.Upon
namespace Go.Ab
set_option linter.unusedSimpArgs false
set_option linter.unusedVariables false
set_option linter.unusedSectionVars false
section
variable {P : Program} {w0 : W0} {E : Env} {h : AH} {w : World}
/-- The same block in the world, by another number. -/
theorem HR.reuse (H : HR P w0 E h w) {b : Nat} {x : Obj × Bool} (hg : h.get b = some x) (hbase : h.base ≤ b) {b' : Nat} {op op' : Option Nat} (eb : E b = some (b', op)) {o o' : Obj}
    (r : ObjR P (E.ext h.next (b', op')) op' o o') (hn : h.next + 2 < 2 ^ depth) :
    HR P w0 (E.ext h.next (b', op')) ((h.set b none).push o op'.isSome) { w with heap := w.heap.setIfInBounds b' o' } := by
  have hd := H.dep
  have hbn := H.lt hg
  have hbw := H.img b b' op eb
  have hb0 := H.own b b' op hbase eb
  have le := H.ext_le (b', op')
  have get : ∀ j, ((h.set b none).push o op'.isSome).get j = if j = h.next then some (o, op'.isSome) else if j = b then none else h.get j := fun j => by
    show (Tr.set depth (Tr.set depth h.t b none) h.next (some (o, op'.isSome))).get j = _
    rw [Tr.get_set depth _ _ _ _ hd, Tr.get_set depth _ _ _ _ (by omega)]
    rfl
  refine ⟨fun j x e => ?_, fun j c p e => ?_, fun j oj p hj {xj} ej => ?_, fun j k c p q x y hj hk e1 e2 => ?_, ⟨H.old.os, H.old.tape, H.old.output, ?_, fun k hk => ?_⟩, fun j c p hj e => ?_, hn, fun {j} x hx => ?_, fun j hj => ?_⟩
  · show j < h.next + 1
    by_cases hj : j = h.next
    · omega
    · simp only [Env.ext, hj, if_false] at e
      have := H.dom j x e; omega
  · show c < (w.heap.setIfInBounds b' o').size
    rw [Array.size_setIfInBounds]
    by_cases hj : j = h.next
    · simp only [Env.ext, hj, if_true, Option.some.injEq, Prod.mk.injEq] at e; omega
    · simp only [Env.ext, hj, if_false] at e
      exact H.img j c p e
  · rw [get] at hj
    by_cases hji : j = h.next
    · subst hji
      simp only [if_true, Option.some.injEq, Prod.mk.injEq] at hj
      obtain ⟨rfl, rfl⟩ := hj
      exact ⟨b', op', o', by simp [Env.ext], rfl, by simp [hbw], r⟩
    · simp only [hji, if_false] at hj
      by_cases hjb : j = b
      · simp [hjb] at hj
      · simp only [hjb, if_false] at hj
        simp only [Env.ext, hji, if_false] at ej
        obtain ⟨c, q, oj', e, ef, hc, rj⟩ := H.blk j oj p hj ej
        refine ⟨c, q, oj', le _ _ e, ef, ?_, rj.mono le⟩
        have hne : b' ≠ c := fun hbc => hjb (H.inj j b c q op _ _ hj hg e (hbc ▸ eb))
        show (w.heap.setIfInBounds b' o')[c]? = _
        rw [Array.getElem?_setIfInBounds_ne hne]; exact hc
  · rw [get] at hj hk
    by_cases hj' : j = h.next <;> by_cases hk' : k = h.next
    · omega
    · simp only [hj', if_true, hk', if_false] at hj hk
      by_cases hkb : k = b
      · simp [hkb] at hk
      · simp only [hkb, if_false] at hk
        simp only [Env.ext, hj', if_true, hk', if_false, Option.some.injEq, Prod.mk.injEq] at e1 e2
        exact absurd (H.inj k b c q op _ _ hk hg e2 (e1.1 ▸ eb)) hkb
    · simp only [hj', if_false, hk', if_true] at hj hk
      by_cases hjb : j = b
      · simp [hjb] at hj
      · simp only [hjb, if_false] at hj
        simp only [Env.ext, hj', if_false, hk', if_true, Option.some.injEq, Prod.mk.injEq] at e1 e2
        exact absurd (H.inj j b c p op _ _ hj hg e1 (e2.1 ▸ eb)) hjb
    · simp only [hj', hk', if_false] at hj hk
      by_cases hjb : j = b
      · simp [hjb] at hj
      · by_cases hkb : k = b
        · simp [hkb] at hk
        · simp only [hjb, hkb, if_false] at hj hk
          simp only [Env.ext, hj', hk', if_false] at e1 e2
          exact H.inj j k c p q _ _ hj hk e1 e2
  · show w0.w.heap.size ≤ (w.heap.setIfInBounds b' o').size
    rw [Array.size_setIfInBounds]; exact H.old.size
  · show (w.heap.setIfInBounds b' o')[k]? = _
    rw [Array.getElem?_setIfInBounds_ne (by omega)]; exact H.old.blk k hk
  · by_cases hji : j = h.next
    · simp only [Env.ext, hji, if_true, Option.some.injEq, Prod.mk.injEq] at e
      omega
    · simp only [Env.ext, hji, if_false] at e
      exact H.own j c p hj e
  · rw [get] at hx
    show j < h.next + 1
    by_cases e : j = h.next
    · omega
    · simp only [e, if_false] at hx
      by_cases e2 : j = b
      · simp [e2] at hx
      · simp only [e2, if_false] at hx
        have := H.lt hx; omega
  · obtain ⟨h1, h2⟩ := H.pend j hj
    have : j ≠ h.next := by omega
    exact ⟨by simp [Env.ext, this, h1], by show j < h.next + 1; omega⟩

def aGrow (e : TypeId) (cs : List Value) (n : Nat) (h : AH) : Option (Value × AH) :=
  if Nat.blt (h.next + 2) (2 ^ depth) && Nat.ble h.base h.next then some (.slice (some ⟨h.next, 0, none⟩) n n, h.push (.cells cs.toArray e (0, 0)) true) else none
def aAppend (P : Program) (t tx : TypeId) (s x : Value) (h : AH) : Option (Value × AH) :=
  match P.underlying t with
  | some (.slice e) =>
    match P.info? e with
    | some i =>
      match i.zero, srcCells i.size x h with
      | some z, some (n, news) =>
        if !(news.all (·.oneCell')) || !kindOk P x tx || !(Nat.beq z.cells.size i.size) || Nat.blt (2 ^ 16) i.bytes || Nat.blt (2 ^ 20) n then none else
        match s with
        | .slice none len cap => if !(Nat.beq len 0) || !(Nat.beq cap 0) then none else if n = 0 then some (.slice none 0 0, h) else aGrow e news n h
        | .slice (some ⟨b, o, none⟩) len cap =>
          if Nat.blt (2 ^ 20) len then none else
          match h.get b with
          | some (.cells c tt (lo, hi), fl) =>
            if cap = 0 && fl then none else
            if len + n ≤ cap then
              if n = 0 then some (.slice (some ⟨b, o, none⟩) len cap, h) else
              if Nat.ble (o + len * i.size + news.length) c.size && Nat.ble h.base b && Nat.beq lo 0 && Nat.beq hi 0 then
                some (.slice (some ⟨b, o, none⟩) (len + n) cap, h.set b (some (.cells (wr c (o + len * i.size) news) tt (0, 0), fl)))
              else none
            else
              match rowOf h b o (len * i.size) with
              | some olds =>
                if !fl then aGrow e (olds ++ news) (len + n) h
                else if Nat.beq o 0 && Nat.beq c.size (cap * i.size) && Nat.beq tt e && Nat.ble h.base b && Nat.beq lo 0 && Nat.beq hi 0 then aGrow e (olds ++ news) (len + n) (h.set b none)
                else none
              | none => none
          | _ => none
        | _ => none
      | _, _ => none
    | none => none
  | _ => none
theorem zeroCells_size (z : Array Value) (n : Nat) : (Builtin.zeroCells z n).size = n * z.size := by simp [Builtin.zeroCells]
/-- A row grown anew. -/
theorem grow_new (H : HR P w0 E h w) {e : TypeId} {i : TypeInfo} {z : Value} (hi : P.info? e = some i) (hzs : z.cells.size = i.size) {cs cs' : List Value} (rc : VL E cs cs') {n m : Nat} (hcs : cs.length = n * i.size) (hm : n ≤ m)
    {v : Value} {h' : AH} (eq : aGrow e cs n h = some (v, h')) :
    ∃ E', E.le E' ∧ VR E' v (.slice (some ⟨w.heap.size, 0, none⟩) n m) ∧ HR P w0 E' h' (w.drew.alloc (.cells (cs'.toArray ++ Builtin.zeroCells z.cells (m - n)) e)) := by
  unfold aGrow at eq
  split at eq
  · rename_i hc
    cases eq
    simp only [Bool.and_eq_true, Nat.blt_eq, Nat.ble_eq] at hc
    have le := H.ext_le (w.heap.size, some (m - n))
    refine ⟨_, le, ?_, ?_⟩
    · refine .slice (op := some (m - n)) (by simp [Env.ext]) (.inr ⟨m - n, rfl, by omega⟩) (Nat.le_refl _)
    · have H' := (H.drawn (w.drawn + 1))
      have := HR.push H' (o := .cells cs.toArray e (0, 0)) (o' := .cells (cs'.toArray ++ Builtin.zeroCells z.cells (m - n)) e (0, 0)) (op := some (m - n)) ?_ hc.1 hc.2
      · exact this
      · have hl := rc.length
        have hcell : P.cellsOf e = i.size := by simp [Program.cellsOf, hi]
        refine .cells ?_ (fun j hj => by simp) (fun j h1 h2 => ?_)
        · simp only [Array.size_append, List.size_toArray, zeroCells_size, Option.getD_some, hl, hcell, hzs]
        · have hj : j < cs'.length := by simp at h1; omega
          rw [Array.getElem_append_left (by simpa using hj)]
          have := (rc.mono le).get j (by simpa using h1) hj
          simpa only [List.getElem_toArray] using this
  · cases eq
theorem olds_run {size len : Nat} {b o cap : Nat} {olds : List Value} (hl : olds.length = len * size) (ho : ∀ j u, olds[j]? = some u → w.cell? ⟨b, o + j, none⟩ = some u) :
    (Builtin.firstCells size len (.slice (some ⟨b, o, none⟩) len cap)).run P w.drew = .ok olds.toArray w.drew :=
  run_firstCells_some w.drew size len _ len cap olds hl fun j u hj => by
    rw [Addr.add_lit]
    exact ho j u hj
theorem aAppend_run (H : HR P w0 E h w) {s s' x x' : Value} (rs : VR E s s') (rx : VR E x x') {t tx : TypeId} {v : Value} {h' : AH} (eq : aAppend P t tx s x h = some (v, h')) (ty : TypeId) :
    ∃ E' v' w', E.le E' ∧ VR E' v v' ∧ (Builtin.append_ #[t, tx] ty #[s', x']).run P w = .ok v' w' ∧ HR P w0 E' h' w' := by
  unfold aAppend at eq
  split at eq
  case h_2 => cases eq
  rename_i e hu
  split at eq
  case h_2 => cases eq
  rename_i i hi
  split at eq
  case h_2 => cases eq
  rename_i z n news hz hsrc
  split at eq
  · cases eq
  rename_i hc
  simp only [Bool.not_eq_true, Bool.or_eq_false_iff, Bool.not_eq_false'] at hc
  obtain ⟨⟨⟨⟨h1, hk⟩, hzs⟩, hb⟩, hn20⟩ := hc
  have ho : ∀ u ∈ news, u.oneCell' = true := List.all_eq_true.1 h1
  have hzs : z.cells.size = i.size := Nat.eq_of_beq_eq_true hzs
  have hb16 : i.bytes ≤ 2 ^ 16 := by
    have : ¬ 2 ^ 16 < i.bytes := fun hh => by rw [show Nat.blt (2 ^ 16) i.bytes = true by rw [Nat.blt_eq]; exact hh] at hb; cases hb
    omega
  have hn : n ≤ 2 ^ 20 := by
    have : ¬ 2 ^ 20 < n := fun hh => by rw [show Nat.blt (2 ^ 20) n = true by rw [Nat.blt_eq]; exact hh] at hn20; cases hn20
    omega
  obtain ⟨news', rn, hs⟩ := src_rel H rx hsrc ho hk
  have hnl : news.length = n * i.size := by rw [← rn.length]; exact hs.newsLen
  have hfit : ∀ need c : Nat, need ≤ 2 ^ 21 → c < need → Builtin.nextslicecap need c * i.bytes ≤ 281474976710656 := fun need c g1 g2 => by
    have g3 := nextcap_le need c g2
    calc Builtin.nextslicecap need c * i.bytes ≤ (2 * 2 ^ 21 + 768) * 2 ^ 16 := Nat.mul_le_mul (by omega) hb16
      _ ≤ 281474976710656 := by decide
  cases rs with
  | nilSlice len cap =>
    simp only at eq
    split at eq
    · cases eq
    rename_i h0
    simp only [Bool.or_eq_true, Bool.not_eq_true', not_or, Bool.not_eq_false] at h0
    have hl0 : len = 0 := Nat.eq_of_beq_eq_true h0.1
    have hc0 : cap = 0 := Nat.eq_of_beq_eq_true h0.2
    subst hl0 hc0
    split at eq
    · rename_i hn0
      cases eq
      subst hn0
      have hnil : news' = [] := by
        have := hs.newsLen
        rw [Nat.zero_mul] at this
        exact List.length_eq_zero_iff.1 this
      subst hnil
      exact ⟨E, _, w, E.le_refl, .nilSlice 0 0, run_append_nothing w t tx ty e i hu hi none 0 0 (Nat.le_refl _) x' hs, H⟩
    · rename_i hn0
      have hr := run_append_grow_src w t tx ty e i z hu hi hz none 0 0 [] (by simp [Builtin.firstCells]) x' n news' hs (by omega) (by omega) (hfit _ _ (by omega) (by omega))
      simp only [Nat.zero_add, List.nil_append] at hr
      obtain ⟨E', le, rv, H'⟩ := grow_new H hi hzs rn hnl (grownCap_ge w n 0 e) eq
      exact ⟨E', _, _, le, rv, hr, H'⟩
  | @slice b o sp len cap b' op cap' eb hcap hlc =>
    cases sp with
    | some sp => cases eq
    | none =>
      simp only at eq
      split at eq
      · cases eq
      rename_i hlen
      have hlen : len ≤ 2 ^ 20 := by
        have : ¬ 2 ^ 20 < len := fun hh => hlen (by rw [Nat.blt_eq]; exact hh)
        omega
      split at eq
      case h_2 => cases eq
      rename_i c tt lo hi' fl hg
      split at eq
      · cases eq
      rename_i hcf
      have hcap' : cap ≤ cap' := by rcases hcap with rfl | ⟨m, rfl, rfl⟩ <;> omega
      obtain ⟨b1, op1, c', fr', e1, ef, hw, s1, s2, s3⟩ := H.row hg eb
      rw [eb] at e1
      cases e1
      split at eq
      · rename_i hroom
        split at eq
        · rename_i hn0
          cases eq
          subst hn0
          have hnil : news' = [] := by
            have := hs.newsLen
            rw [Nat.zero_mul] at this
            exact List.length_eq_zero_iff.1 this
          subst hnil
          exact ⟨E, _, w, E.le_refl, .slice eb hcap hlc, run_append_nothing w t tx ty e i hu hi _ len cap' (by omega) x' hs, H⟩
        · split at eq
          · rename_i hn0 hcond
            cases eq
            simp only [Bool.and_eq_true, Nat.ble_eq] at hcond
            obtain ⟨⟨⟨hfit1, hbase⟩, hlo⟩, hhi⟩ := hcond
            have hlo : lo = 0 := Nat.eq_of_beq_eq_true hlo
            have hhi : hi' = 0 := Nat.eq_of_beq_eq_true hhi
            subst hlo hhi
            have hnl' : news'.length = news.length := rn.length
            have hcs : c.size ≤ c'.size := by omega
            have hnf : ∀ j, j < c'.size → ¬ (fr'.1 ≤ j ∧ j < fr'.2) := fun j hj hh => by
              have := (s2 j hj).1 hh
              simp only at this
              omega
            have hr := run_append_room_src w t tx ty e i hu hi b' o len cap' x' n news' hs (by omega) (fun j hj => by
              have : o + len * i.size + j < c'.size := by omega
              simp [World.cell?, hw, this]) (fun j hj => by
              have hjs : o + len * i.size + j < c'.size := by omega
              have := hnf _ hjs
              obtain ⟨f1, f2⟩ := fr'
              simp only at this
              simp only [World.frozen?, hw, Bool.and_eq_false_iff, decide_eq_false_iff_not]
              omega)
            rw [setCells_eq news' _ hw] at hr
            refine ⟨E, _, _, E.le_refl, .slice eb hcap (by omega), hr, ?_⟩
            have := H.put hg hbase (o := .cells (wr c (o + len * i.size) news) tt (0, 0)) (o' := .cells (wr c' (o + len * i.size) news') tt fr') eb (.cells (by rw [wr_size, wr_size]; exact s1) (fun j hj => by
              rw [wr_size] at hj ⊢
              exact s2 j hj) (fun j g1 g2 => by
              rw [wr_size] at g1 g2
              have q1 := wr_get news c (o + len * i.size) j hfit1
              have q2 := wr_get news' c' (o + len * i.size) j (by omega)
              rw [hnl'] at q2
              by_cases hin : o + len * i.size ≤ j ∧ j < o + len * i.size + news.length
              · rw [if_pos hin] at q1 q2
                have g3 : j - (o + len * i.size) < news.length := by omega
                have g4 : j - (o + len * i.size) < news'.length := by omega
                rw [List.getElem?_eq_getElem g3] at q1
                rw [List.getElem?_eq_getElem g4] at q2
                obtain ⟨_, q1⟩ := Array.getElem?_eq_some_iff.1 q1
                obtain ⟨_, q2⟩ := Array.getElem?_eq_some_iff.1 q2
                rw [q1, q2]
                exact rn.get _ g3 g4
              · rw [if_neg hin] at q1 q2
                rw [Array.getElem?_eq_getElem g1] at q1
                rw [Array.getElem?_eq_getElem g2] at q2
                obtain ⟨_, q1⟩ := Array.getElem?_eq_some_iff.1 q1
                obtain ⟨_, q2⟩ := Array.getElem?_eq_some_iff.1 q2
                rw [q1, q2]
                exact s3 j g1 g2))
            rw [ef] at this
            exact this
          · cases eq
      · rename_i hgrow
        split at eq
        case h_2 => cases eq
        rename_i olds hro
        obtain ⟨olds', ro, q1, q2, q3⟩ := rowOf_rel H hro eb
        have rall := ro.append rn
        have hallen : (olds ++ news).length = (len + n) * i.size := by rw [List.length_append, q1, hnl, Nat.add_mul]
        have grow : cap' < len + n → (Builtin.append_ #[t, tx] ty #[.slice (some ⟨b', o, none⟩) len cap', x']).run P w = .ok (.slice (some ⟨w.heap.size, 0, none⟩) (len + n) (grownCap w (len + n) cap' e)) (w.drew.alloc (.cells ((olds' ++ news').toArray ++ Builtin.zeroCells z.cells (grownCap w (len + n) cap' e - (len + n))) e)) := fun hg =>
          run_append_grow_src w t tx ty e i z hu hi hz _ len cap' olds' (olds_run q2 q3) x' n news' hs hg (by omega) (hfit _ _ (by omega) hg)
        split at eq
        · rename_i hfl
          have hcc : cap' = cap := by
            rcases hcap with h | ⟨m, hm, _⟩
            · exact h
            · rw [hm] at ef
              simp only [Option.isSome_some] at ef
              rw [← ef] at hfl
              simp at hfl
          subst hcc
          obtain ⟨E', le, rv, H'⟩ := grow_new H hi hzs rall hallen (grownCap_ge w (len + n) cap' e) eq
          exact ⟨E', _, _, le, rv, grow (by omega), H'⟩
        · split at eq
          · rename_i hfl hcond
            simp only [Bool.and_eq_true, Nat.ble_eq] at hcond
            obtain ⟨⟨⟨⟨⟨ho0, hcsz⟩, htt⟩, hbase⟩, hlo⟩, hhi⟩ := hcond
            have ho0 : o = 0 := Nat.eq_of_beq_eq_true ho0
            have hcsz : c.size = cap * i.size := Nat.eq_of_beq_eq_true hcsz
            have htt : tt = e := Nat.eq_of_beq_eq_true htt
            have hlo : lo = 0 := Nat.eq_of_beq_eq_true hlo
            have hhi : hi' = 0 := Nat.eq_of_beq_eq_true hhi
            subst ho0 htt hlo hhi
            by_cases hreal : cap' < len + n
            · obtain ⟨E', le, rv, H'⟩ := grow_new (H.kill (H.lt hg)) hi hzs rall hallen (grownCap_ge w (len + n) cap' tt) eq
              exact ⟨E', _, _, le, rv, grow hreal, H'⟩
            · -- in place, in the world
              rcases hcap with hcap | ⟨m, rfl, hcap⟩
              · omega
              have hcell : P.cellsOf tt = i.size := by simp [Program.cellsOf, hi]
              simp only [Option.getD_some] at s1
              rw [hcell, hcsz, ← Nat.add_mul, ← hcap] at s1
              have hnf : ∀ j, j < c'.size → ¬ (fr'.1 ≤ j ∧ j < fr'.2) := fun j hj hh => by
                have := (s2 j hj).1 hh
                simp only at this
                omega
              have hsz : (len + n) * i.size ≤ c'.size := by rw [s1]; exact Nat.mul_le_mul_right _ (by omega)
              have hadd : (len + n) * i.size = len * i.size + n * i.size := Nat.add_mul _ _ _
              have hnl' : news'.length = n * i.size := hs.newsLen
              have hr := run_append_room_src w t tx ty tt i hu hi b' 0 len cap' x' n news' hs (by omega) (fun j hj => by
                have : 0 + len * i.size + j < c'.size := by omega
                simp only [World.cell?, hw]
                simp [this]; omega) (fun j hj => by
                have hjs : 0 + len * i.size + j < c'.size := by omega
                have := hnf _ hjs
                obtain ⟨f1, f2⟩ := fr'
                simp only at this
                simp only [World.frozen?, hw, Bool.and_eq_false_iff, decide_eq_false_iff_not]
                omega)
              rw [setCells_eq news' _ hw] at hr
              unfold aGrow at eq
              split at eq
              · rename_i hnx
                cases eq
                simp only [Bool.and_eq_true, Nat.blt_eq, Nat.ble_eq] at hnx
                have le := H.ext_le (b', some (cap' - (len + n)))
                refine ⟨_, _, _, le, ?_, hr, HR.reuse H hg hbase eb (op' := some (cap' - (len + n))) (o := .cells (olds ++ news).toArray tt (0, 0)) ?_ hnx.1⟩
                · refine .slice (op := some (cap' - (len + n))) ?_ (.inr ⟨_, rfl, by omega⟩) (Nat.le_refl _)
                  show (E.ext h.next _) h.next = _
                  simp [Env.ext]
                · refine .cells ?_ (fun j hj => ?_) (fun j g1 g2 => ?_)
                  · rw [wr_size, s1]
                    simp only [List.size_toArray, hallen, hcell, Option.getD_some]
                    rw [← Nat.add_mul]
                    congr 1
                    omega
                  · rw [wr_size] at hj
                    have := hnf j hj
                    simp only
                    omega
                  · simp only [List.size_toArray, hallen] at g1
                    rw [wr_size] at g2
                    have q4 := wr_get news' c' (0 + len * i.size) j (by omega)
                    have rr := rall.get j (by omega) (by rw [rall.length]; omega)
                    have e1 : ∀ (hh : j < (wr c' (0 + len * i.size) news').size), (wr c' (0 + len * i.size) news')[j] = (olds' ++ news')[j]'(by rw [rall.length]; omega) := fun hh => by
                      by_cases hin : 0 + len * i.size ≤ j ∧ j < 0 + len * i.size + news'.length
                      · rw [if_pos hin] at q4
                        have g4 : j - (0 + len * i.size) < news'.length := by omega
                        rw [List.getElem?_eq_getElem g4] at q4
                        obtain ⟨_, q4⟩ := Array.getElem?_eq_some_iff.1 q4
                        rw [q4, List.getElem_append_right (by omega)]
                        congr 1
                        omega
                      · rw [if_neg hin] at q4
                        have hjl : j < olds'.length := by omega
                        have := q3 j _ (List.getElem?_eq_getElem hjl)
                        simp only [World.cell?, hw, Nat.zero_add] at this
                        simp only [Option.isSome_none, Bool.false_eq_true, if_false] at this
                        rw [this] at q4
                        obtain ⟨_, q4⟩ := Array.getElem?_eq_some_iff.1 q4
                        rw [q4, List.getElem_append_left hjl]
                    simp only [List.getElem_toArray]
                    rw [e1]
                    exact rr.mono le
              · cases eq
          · cases eq
  | @empty b o sp b' a' cap' m eb =>
    cases sp with
    | some sp => cases eq
    | none =>
      simp only at eq
      split at eq
      · cases eq
      split at eq
      case h_2 => cases eq
      rename_i c tt lo hi' fl hg
      obtain ⟨b1, op1, c', fr', e1, ef, hw, s1, s2, s3⟩ := H.row hg eb
      rw [eb] at e1
      cases e1
      have hfl : fl = true := by rw [← ef]; rfl
      rw [hfl] at eq
      simp at eq
  | _ => cases eq
end
end Go.Ab
