/- The package's errors, as the world that a law starts in has them: one place each, no two alike. -/
import Derived.Test.YthekgpchjonboaaGreatDoorProg
import Derived.Test.YthekgpchjonboaaGreatDoorBase
import Derived.LaidLaws
import Derived.LaidSub
import Derived.ProofKit
namespace Go
open Go.ChangeShapes

@[go_sem] theorem run_eqGuard_iface_right {P : Program} {w : World} (op : BinOp) (t : TypeId) (x y : Operand) (v : Value) (u : TypeId) (z : Value) : (eqGuard op t x y v (.iface u z)).run P w = .ok () w := by
  cases op <;> first | rfl | (unfold eqGuard; cases v <;> rfl)
@[go_sem] theorem run_eqGuard_iface_left {P : Program} {w : World} (op : BinOp) (t : TypeId) (x y : Operand) (v : Value) (u : TypeId) (z : Value) : (eqGuard op t x y (.iface u z) v).run P w = .ok () w := by
  cases op <;> first | rfl | (unfold eqGuard; cases v <;> rfl)

/-- Named errors of one text each, as a row lists them. -/
def laidErr (nm : String) (x : String × List UInt8) : String × DataW Unit := (x.1, .iface nm (.ptr (.agg [.lit (.string x.2)])))

structure ErrAtName (P : Program) (tp : TypeId) (w : World) (x : String × List UInt8) (a : Addr) : Prop where
  at' : ∃ g, P.globalNamed x.1 = some g ∧ w.cell? ⟨g, 0, none⟩ = some (.iface tp (.pointer (some a)))
  text : ∃ s, w.cell? a = some (.string s) ∧ s.data.toList = x.2 ∧ s.size ≤ maxLen

theorem errs_of_laid {P : Program} {w : World} {ti tp te ts : TypeId} {ms : Array (String × TypeId)} {nm : String} {f : Field}
    (hi : P.underlying ti = some (.interface ms)) (hrow : ∀ u, P.typeName? 3 u = some nm → u = tp)
    (hp : P.underlying tp = some (.pointer te)) (he : P.underlying te = some (.struct #[f])) (hft : f.type = ts) (hfo : f.offset = 0) (hs : P.underlying ts = some .string) (hc : P.cellsOf te = 1) (hcs : P.cellsOf ts = 1) :
    ∀ (L : List (String × List UInt8)) (ps : List MemPlace), (L.all fun x => (P.globalNamed x.1).bind (fun g => (P.globals[g]?).map (·.type)) == some ti) = true →
      DataW.LaidVars P w (L.map (laidErr nm)) ps → ps.Nodup → (∀ b off, MemPlace.cell b off ∈ ps → ∀ u v, w.cell? ⟨b, off, none⟩ = some (.iface u v) → Value.okWide P w .any 0 u v) →
      ∃ ads : List Addr, (ads.length = L.length ∧ ∀ (i : Nat) x a, L[i]? = some x → ads[i]? = some a → ErrAtName P tp w x a) ∧ (∀ a ∈ ads, MemPlace.cell a.block a.off ∈ ps) ∧ ads.Nodup
  | [], ps, _, h, _, _ => ⟨[], ⟨rfl, fun i x a h => by simp at h⟩, fun a ha => by simp at ha, List.nodup_nil⟩
  | (n, t) :: L, ps, hg, h, hnd, hrows => by
    obtain ⟨g, t', cs, fuel, p, q, hgn, hgt, hv, hd, hr, rfl⟩ := h
    simp only [List.all_cons, Bool.and_eq_true, beq_iff_eq] at hg
    obtain ⟨hg1, hg2⟩ := hg
    rw [hgn] at hg1
    simp only [Option.bind_some] at hg1
    obtain rfl : t' = ti := by rw [hgt] at hg1; exact Option.some.inj hg1
    obtain ⟨l⟩ := cs
    have hn2 := List.nodup_append.1 hnd
    have hn1 := List.nodup_append.1 hn2.1
    obtain ⟨ads, ⟨hl1, h1⟩, h2, h3⟩ := errs_of_laid hi hrow hp he hft hfo hs hc hcs L q hg2 hr hn2.2.1 (fun b off hb => hrows b off (by simp [hb]))
    have ok : ∀ u v, l = [.iface u v] → Value.okWide P w .any 0 u v := fun u v e => by
      subst e
      exact hrows g 0 (by simp [MemPlace.row]) u v (by simpa using World.var?_cell hgn hv 0)
    obtain ⟨a, s, rfl, hcell, hst, hsz, rfl⟩ := errorString_of_trod hi hrow hp he hft hfo hs hc hcs hd ok
    refine ⟨a :: ads, ⟨by simp [hl1], fun i x b hx hb => ?_⟩, ?_, ?_⟩
    · cases i with
      | zero =>
        simp only [List.getElem?_cons_zero, Option.some.injEq] at hx hb
        subst hx; subst hb
        exact ⟨⟨g, hgn, by simpa using World.var?_cell hgn hv 0⟩, ⟨s, hcell, hst, hsz⟩⟩
      | succ i => exact h1 i x b (by simpa using hx) (by simpa using hb)
    · intro b hb
      rcases List.mem_cons.1 hb with rfl | hb
      · simp [MemPlace.row]
      · simp [h2 b hb]
    · refine List.nodup_cons.2 ⟨fun ha => ?_, h3⟩
      exact hn2.2.2 (.cell a.block a.off) (by simp [MemPlace.row]) _ (h2 a ha) rfl
end Go

namespace Go.Proofs.YthekgpchjonboaaGreatDoor
open Go.RowKit Go.ChangeShapes

/-- The errors' names and texts, by their numbers (Other last). -/
def errNames : List (String × List UInt8) := [("barrow/api.ErrArg", [98, 97, 100, 32, 97, 114, 103, 117, 109, 101, 110, 116]), ("barrow/api.ErrRange", [111, 117, 116, 32, 111, 102, 32, 114, 97, 110, 103, 101]), ("barrow/api.ErrText", [98, 97, 100, 32, 116, 101, 120, 116]), ("barrow/api.ErrFull", [110, 111, 32, 99, 114, 101, 100, 105, 116, 32, 108, 101, 102, 116]), ("barrow/api.ErrFrozen", [102, 114, 111, 122, 101, 110]), ("barrow/api.ErrForm", [98, 97, 100, 32, 102, 111, 114, 109]), ("barrow/api.ErrShort", [99, 117, 116, 32, 115, 104, 111, 114, 116]), ("barrow/api.ErrOrder", [110, 111, 116, 32, 121, 101, 116]), ("barrow/api.ErrTwice", [116, 104, 101, 114, 101, 32, 97, 108, 114, 101, 97, 100, 121]), ("barrow/api.ErrEpoch", [97, 110, 111, 116, 104, 101, 114, 32, 101, 112, 111, 99, 104]), ("barrow/api.ErrBusy", [98, 117, 115, 121]), ("barrow/api.ErrNone", [110, 111, 116, 104, 105, 110, 103, 32, 116, 104, 101, 114, 101]), ("barrow/api.ErrRoom", [110, 111, 32, 114, 111, 111, 109]), ("barrow/api.ErrOther", [115, 111, 109, 101, 116, 104, 105, 110, 103, 32, 101, 108, 115, 101])]

/-- The error of a place. -/
abbrev errV (a : Addr) : Value := .iface 478 (.pointer (some a))

/-- The variables of the package's errors hold one place each: S c is that of number c (14: the one without a number). -/
structure Sents (S : Nat → Addr) (w : World) : Prop where
  s1 : w.cell? ⟨0, 0, none⟩ = some (errV (S 1))
  s2 : w.cell? ⟨1, 0, none⟩ = some (errV (S 2))
  s3 : w.cell? ⟨2, 0, none⟩ = some (errV (S 3))
  s4 : w.cell? ⟨3, 0, none⟩ = some (errV (S 4))
  s5 : w.cell? ⟨4, 0, none⟩ = some (errV (S 5))
  s6 : w.cell? ⟨5, 0, none⟩ = some (errV (S 6))
  s7 : w.cell? ⟨6, 0, none⟩ = some (errV (S 7))
  s8 : w.cell? ⟨7, 0, none⟩ = some (errV (S 8))
  s9 : w.cell? ⟨8, 0, none⟩ = some (errV (S 9))
  s10 : w.cell? ⟨9, 0, none⟩ = some (errV (S 10))
  s11 : w.cell? ⟨10, 0, none⟩ = some (errV (S 11))
  s12 : w.cell? ⟨11, 0, none⟩ = some (errV (S 12))
  s13 : w.cell? ⟨12, 0, none⟩ = some (errV (S 13))
  s14 : w.cell? ⟨13, 0, none⟩ = some (errV (S 14))
  ne : ∀ c d, 1 ≤ c → c ≤ 14 → 1 ≤ d → d ≤ 14 → S c = S d → c = d
  blk : ∀ c, 1 ≤ c → c ≤ 14 → ∃ ca ta, w.heap[(S c).block]? = some (.cells ca ta (0, 0))
  txt : ∀ c, 1 ≤ c → c ≤ 14 → ∃ s : ByteArray, w.cell? (S c) = some (.string s) ∧ s.data.toList = (errNames.getD (c - 1) default).2 ∧ s.size ≤ maxLen

theorem Sents.plus {S : Nat → Addr} {w : World} (h : Sents S w) (x : More) : Sents S (w.plus x) :=
  ⟨by rw [World.cell?_plus _ _ _ (by rw [h.s1]; rfl), h.s1], by rw [World.cell?_plus _ _ _ (by rw [h.s2]; rfl), h.s2], by rw [World.cell?_plus _ _ _ (by rw [h.s3]; rfl), h.s3], by rw [World.cell?_plus _ _ _ (by rw [h.s4]; rfl), h.s4], by rw [World.cell?_plus _ _ _ (by rw [h.s5]; rfl), h.s5], by rw [World.cell?_plus _ _ _ (by rw [h.s6]; rfl), h.s6], by rw [World.cell?_plus _ _ _ (by rw [h.s7]; rfl), h.s7], by rw [World.cell?_plus _ _ _ (by rw [h.s8]; rfl), h.s8], by rw [World.cell?_plus _ _ _ (by rw [h.s9]; rfl), h.s9], by rw [World.cell?_plus _ _ _ (by rw [h.s10]; rfl), h.s10], by rw [World.cell?_plus _ _ _ (by rw [h.s11]; rfl), h.s11], by rw [World.cell?_plus _ _ _ (by rw [h.s12]; rfl), h.s12], by rw [World.cell?_plus _ _ _ (by rw [h.s13]; rfl), h.s13], by rw [World.cell?_plus _ _ _ (by rw [h.s14]; rfl), h.s14], h.ne, fun c h0 h1 => by
    obtain ⟨ca, ta, hb⟩ := h.blk c h0 h1
    exact ⟨ca, ta, by rw [World.block_plus w x _ (Array.getElem?_eq_some_iff.1 hb).1, hb]⟩, fun c h0 h1 => by
    obtain ⟨s, h2, h3⟩ := h.txt c h0 h1
    exact ⟨s, by rw [World.cell?_plus _ _ _ (by rw [h2]; rfl), h2], h3⟩⟩
theorem Sents.grew {S : Nat → Addr} {w w' : World} (h : Sents S w) (g : Grew w w') : Sents S w' := by
  obtain ⟨x, rfl⟩ := g
  exact h.plus x

theorem row_errString (u : TypeId) (h : Tryz.prog.typeName? 3 u = some "*errors.errorString") : u = 478 :=
  typeName_ptr_named (nm := "errors.errorString") (by rw [show "*" ++ "errors.errorString" = "*errors.errorString" by decide]; kernel_rfl) (by kernel_rfl) (by decide) u (by rw [show "*" ++ "errors.errorString" = "*errors.errorString" by decide]; exact h)

set_option maxRecDepth 100000 in
theorem sents_of_laid {W : World} {laid : List (String × DataW Unit)} (h : laidMetH Tryz.prog laid W) (keep : String × DataW Unit → Bool)
    (hk : (laid.filter fun x => keep x && x.2.handleName?.isNone) = errNames.map (laidErr "*errors.errorString")) :
    ∃ S, Sents S W := by
  have h1 := (laidMetH_iff.1 h).1.filter keep
  rw [List.filter_filter, hk] at h1
  obtain ⟨ps, hl, hnd, hrows⟩ := h1
  obtain ⟨ads, ⟨hlen, h2⟩, hpl, h3⟩ := errs_of_laid Tryz.underlying26 row_errString Tryz.underlying478 Tryz.underlying500 rfl rfl Tryz.underlying9 (by kernel_rfl) (by kernel_rfl) errNames ps (by kernel_rfl) hl hnd (fun b off hb => (hrows b off hb).2)
  have hlen' : ads.length = 14 := hlen
  have key : ∀ i x g, errNames[i]? = some x → Tryz.prog.globalNamed x.1 = some g → i < 14 → W.cell? ⟨g, 0, none⟩ = some (errV (ads.getD (i + 1 - 1) default)) := fun i x g hx hg hi => by
    obtain ⟨⟨g', hg', hc⟩, _⟩ := h2 i x (ads.getD i default) hx (by simp [List.getD_eq_getElem?_getD, List.getElem?_eq_getElem (show i < ads.length by omega)])
    obtain rfl := Option.some.inj (hg.symm.trans hg')
    simpa using hc
  refine ⟨fun c => ads.getD (c - 1) default, key 0 _ _ rfl (by kernel_rfl) (by decide), key 1 _ _ rfl (by kernel_rfl) (by decide), key 2 _ _ rfl (by kernel_rfl) (by decide), key 3 _ _ rfl (by kernel_rfl) (by decide), key 4 _ _ rfl (by kernel_rfl) (by decide), key 5 _ _ rfl (by kernel_rfl) (by decide), key 6 _ _ rfl (by kernel_rfl) (by decide), key 7 _ _ rfl (by kernel_rfl) (by decide), key 8 _ _ rfl (by kernel_rfl) (by decide), key 9 _ _ rfl (by kernel_rfl) (by decide), key 10 _ _ rfl (by kernel_rfl) (by decide), key 11 _ _ rfl (by kernel_rfl) (by decide), key 12 _ _ rfl (by kernel_rfl) (by decide), key 13 _ _ rfl (by kernel_rfl) (by decide), fun c d hc1 hc2 hd1 hd2 e => ?_, fun c h0 h1 => ?_, fun c h0 h1 => ?_⟩
  all_goals have gd : ∀ i, (h : i < ads.length) → ads.getD i default = ads[i] := fun i h => by simp [List.getD_eq_getElem?_getD, List.getElem?_eq_getElem h]
  · have e' : ads[c - 1]'(by omega) = ads[d - 1]'(by omega) := by rw [← gd _ (by omega), ← gd _ (by omega)]; exact e
    have hp := List.pairwise_iff_getElem.1 h3
    rcases Nat.lt_trichotomy (c - 1) (d - 1) with hl | hl | hl
    · exact absurd e' (hp _ _ _ _ hl)
    · omega
    · exact absurd e'.symm (hp _ _ _ _ hl)
  · rw [gd (c - 1) (by omega)]
    obtain ⟨ca, ta, hb⟩ := (hrows _ _ (hpl _ (List.getElem_mem (by omega : c - 1 < ads.length)))).1
    exact ⟨ca, ta, hb⟩
  · rw [gd (c - 1) (by omega)]
    have hx : c - 1 < errNames.length := by show c - 1 < 14; omega
    obtain ⟨_, s, h5, h6, h7⟩ := h2 (c - 1) errNames[c - 1] ads[c - 1] (List.getElem?_eq_getElem hx) (List.getElem?_eq_getElem (by omega))
    refine ⟨s, h5, ?_, h7⟩
    rw [h6, List.getD_eq_getElem?_getD, List.getElem?_eq_getElem hx]; rfl
end Go.Proofs.YthekgpchjonboaaGreatDoor
