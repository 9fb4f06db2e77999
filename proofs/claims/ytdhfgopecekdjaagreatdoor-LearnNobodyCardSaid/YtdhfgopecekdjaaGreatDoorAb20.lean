/- The card of LearnNobody is proved, for every input; no condition of ours. -/
import Derived.Test.YtdhfgopecekdjaaGreatDoorAb19
import Derived.Test.YtdhfgopecekdjaaGreatDoorRows
import Derived.Test.YtdhfgopecekdjaaGreatDoorTie
import Derived.Test.YtdhfgopecekdjaaGreatDoorCards
import Derived.ProofKit
import Derived.LaidMore
import Derived.OpenShut
import Derived.Stop.Joined
import Derived.SliceStrings
import Derived.SevenTiedAt
namespace Go.Ab
noncomputable section
open Go Go.Proofs Go.RowKit
set_option maxRecDepth 100000
/-- What a call starts from. -/
def topBase (W : World) (φ : Nat → Value) : Base := { toWorld := W, I0 := fun _ => True, own := fun _ => False, start := ⟨W, fun b => b < W.heap.size, φ, []⟩ }
theorem top_imm (W : World) (φ : Nat → Value) (w : World) (b : Nat) : imm (topBase W φ) w φ [] b ↔ b < w.heap.size := by
  constructor
  · intro h; exact h.1
  · intro h; exact ⟨h, fun _ => .inl trivial, fun id o ho => by simp [look_nil] at ho⟩
/-- A function of data, called from anywhere. -/
theorem PureC.calls {P : Program} {T : Tbl} (hT : TblOk P T) {f : FuncId} {l : List AV} {v : AV} {fn : Func} {c : Code} (h : PureC P T f l v fn c) {W : World} {vs : List Value} (hvl : vs.length = l.length)
    (hvs : ∀ (i : Nat) (av : AV), l[i]? = some av → ∃ u, vs[i]? = some u ∧ Slot ⟨W, fun b => b < W.heap.size, fun _ => undef, []⟩ av u) :
    Calls P f vs.toArray W fun e W' => ∃ u, e = .returned u ∧ Below W.heap.size W W' ∧ ∃ φ, Slot ⟨W', fun b => b < W'.heap.size, φ, []⟩ v u := by
  refine callsIn_wide (n := 0).1 ?_
  have hc := h.call []
  have hI : (imm (topBase W (fun _ => undef)) W (fun _ => undef) []) = fun b => b < W.heap.size := funext fun b => propext (top_imm W _ W b)
  refine call_core (C := ⟨P, T, topBase W (fun _ => undef), 0, []⟩) hT (F := Fence.wide) ⟨fun _ => trivial, rfl⟩ h.hfn h.hbody (l := l) h.hN (R := fun v' o' => v' = v ∧ o' = []) (kp := List.contains []) (φ := fun _ => undef) (objs := []) (small := []) hc.hs hc.hcl hc.hl
    (fun w1 => hc.hrun w1 _ _ ⟨fun _ => trivial, rfl⟩ rfl) ⟨⟨rfl, rfl, rfl, Nat.le_refl _, fun _ _ _ => rfl⟩, rfl, fun id o ho => (by simp [look_nil] at ho), fun i j o o' hi => (by simp [look_nil] at hi)⟩ hvl (fun i av hi => ?_) ?_
  · obtain ⟨u, h1, h2⟩ := hvs i av hi
    refine ⟨u, h1, ?_⟩
    show Slot ⟨W, imm (topBase W (fun _ => undef)) W (fun _ => undef) [], fun _ => undef, []⟩ av u
    rw [hI]
    exact h2
  · rintro v' o' ⟨rfl, rfl⟩ u w' φ' hg hle hs
    refine ⟨u, rfl, ⟨hg.below.os, hg.below.tape, hg.below.output, hg.below.size, fun k hk => hg.below.block k hk (fun h => h)⟩, φ', ?_⟩
    have hI' : (imm (topBase W (fun _ => undef)) w' φ' []) = fun b => b < w'.heap.size := funext fun b => propext ⟨fun h => h.1, fun h => ⟨h, fun _ => .inl trivial, fun id o ho => by simp [look_nil] at ho⟩⟩
    have hs' : Slot ⟨w', imm (topBase W (fun _ => undef)) w' φ' [], φ', []⟩ v' u := hs
    rw [hI'] at hs'
    exact hs'
theorem nobody_calls {W : World} {a0 : Option Addr} {len cap : Nat} {xs : List ByteArray} (m k : Int) (hrep : RepC (fun b => b < W.heap.size) W (.lst .str) xs [.slice a0 len cap]) :
    Calls Tryz.prog 3 #[.slice a0 len cap, .int .i64 m, .int .u8 k] W fun e W' => e = .returned (.bool true) ∧ Below W.heap.size W W' := by
  refine ((nobody3 xs m k).calls tblOk (vs := [.slice a0 len cap, .int .i64 m, .int .u8 k]) rfl (fun i av hi => ?_)).mono ?_
  · match i, hi with
    | 0, hi => cases hi; exact ⟨_, rfl, Or.inr ⟨rfl, hrep⟩⟩
    | 1, hi => cases hi; exact ⟨_, rfl, Or.inr ⟨rfl, rfl⟩⟩
    | 2, hi => cases hi; exact ⟨_, rfl, Or.inr ⟨rfl, rfl⟩⟩
  · rintro e W' ⟨u, rfl, hb, φ, hs⟩
    exact ⟨by rw [hs.bool], hb⟩
end
end Go.Ab

namespace Go.Proofs.YtdhfgopecekdjaaGreatDoor
noncomputable section
open Go.ChangeShapes Go.WideShapes Go.ChangeAt Go.WideMaps Go.WideElems Go.RowKit

theorem own : ownKnob Tryz.prog.godebug = none := by kernel_rfl
theorem laidOut : laidOutB Tryz.prog = true := by kernel_rfl
theorem cells9 : Tryz.prog.cellsOf 9 = 1 := by kernel_rfl
abbrev laidL : List (String × DataW Unit) := [("math/bits.deBruijn32tab", Rows.laid_math_bits_deBruijn32tab), ("math/bits.deBruijn64tab", Rows.laid_math_bits_deBruijn64tab), ("internal/strconv.uint64pow10", Rows.laid_internal_strconv_uint64pow10)]

/-- The door's own heap meets the condition. -/
theorem door_met (os : Os) (args : Array Value) : laidMetH Tryz.prog laidL ((World.doorLaid Tryz.prog 24 os).forCall (fun _ _ => 0) ⟨#[], args, []⟩).memory :=
  laidMetH_of_parts3 (fuel := 8) (laidMet_of_run' 8 (by kernel_rfl) (by kernel_rfl)) (by kernel_rfl) (by kernel_rfl)

set_option maxRecDepth 100000 in
theorem lifted (os : Os) (started : os.Started) (H : Type) (enc : TypeId × Value → H) :
    ReturnsInHanded {} Tryz.checked os 3 .any (fun w args => (Rows.learnNobodySpec.pre enc Tryz.prog Tryz.f3 [] false w args ∧ laidMetH Tryz.prog laidL w) ∧ sizedMet enc Tryz.prog Tryz.f3 (OpenSpec.ofChange Rows.learnNobodySpec) false w args)
      (Rows.learnNobodySpec.post enc Tryz.prog Tryz.f3 false true false false) := by
  refine returnsInHanded_of_change_and (C := Tryz.checked) (X := fun w _ => laidMetH Tryz.prog laidL w) (fun _ _ _ hh h => h.of_heap hh) own started (by kernel_rfl) Tryz.func3
    (ChangeSpec.witness_shaped (enc := enc) (C := Tryz.checked) (os := os) (X := fun w _ => laidMetH Tryz.prog laidL w) false (World.doorLaid Tryz.prog 24 os) #[.slice none 0 0, .int .i64 0, .int .u8 0] 8 rfl (World.shaped_of_RefB (by kernel_rfl) (by kernel_rfl)) (by kernel_rfl) (by kernel_rfl) (by kernel_rfl) (door_met os _)) ?_
  intro W base args ds gs before hval0 hW _ _ _ _
  have hval : ∀ (j : Nat) t v, Tryz.f3.params[j]? = some t → args[j]? = some v → Value.okWide Tryz.prog W .any base t v := hval0
  have hW' := hW
  obtain ⟨p, q, hA0, hV, rfl, _, _⟩ := hW
  have hA : DataW.TrodAll enc Tryz.prog W 0 (fun _ => true) true Tryz.f3.params.toList args.toList ds p := hA0
  rw [Tryz.params3] at hA hval
  obtain ⟨v0, v1, v2, d0, d1, d2, p0, p1, p2, rfl, rfl, rfl, h0, h1, h2⟩ := trodAll_three hA
  obtain ⟨rfl, rfl⟩ := trodVars_none hV
  obtain ⟨m, rfl, rfl, rfl, wm⟩ := open_int Tryz.underlying3 (hval 1 3 v1 rfl rfl) h1
  obtain ⟨k, rfl, rfl, rfl, wk⟩ := open_int Tryz.underlying5 (hval 2 5 v2 rfl rfl) h2
  obtain ⟨a0, len, cap, rfl⟩ := okWide_slice Tryz.underlying22 (hval 0 22 v0 rfl rfl)
  have h0k := h0
  obtain ⟨fuel, hf⟩ := h0
  clear hA0 hval0
  simp only [List.append_nil] at hW'
  have hlt : ∀ x ∈ p0, x.block < W.heap.size := fun x hx => by simpa using hW'.lt x hx
  have fin : ∀ W' : World, Below W.heap.size W W' → Rows.learnNobodySpec.post enc Tryz.checked.prog Tryz.f3 false true false false W #[.slice a0 len cap, .int .i64 m, .int .u8 k] (.bool true) W' := by
    intro W' hnx
    refine ⟨_, _, _, [], p0, [], hW', ?_, ?_, rfl, by simpa using hnx.frame _, fun h => by cases h⟩
    · exact trodAll_mk1 (shut_bool Tryz.underlying4 true)
    · have := trodAll_mk3 (Below.trod laidOut (by kernel_rfl) (of_decide_eq_true (by kernel_rfl)) h0k hnx hlt) (shut_int (enc := enc) (w := W') (base := 0) (spare := fun b => decide (b < W.heap.size)) (held := true) Tryz.underlying3 wm) (shut_int (enc := enc) (w := W') (base := 0) (spare := fun b => decide (b < W.heap.size)) (held := true) Tryz.underlying5 wk)
      have this2 : DataW.TrodAll enc Tryz.prog W' 0 (fun b => decide (b < W.heap.size)) true [22, 3, 5] [.slice a0 len cap, .int .i64 m, .int .u8 k] [d0, .lit (.int .i64 m), .lit (.int .u8 k)] p0 := by simpa using this
      exact this2
  have go : ∀ xs : List ByteArray, Go.Ab.RepC (fun b => b < W.heap.size) W (.lst .str) xs [.slice a0 len cap] → Calls Tryz.checked.prog 3 #[.slice a0 len cap, .int .i64 m, .int .u8 k] W fun e W' => ∃ v, e = Ending.returned v ∧ Rows.learnNobodySpec.post enc Tryz.checked.prog Tryz.f3 false true false false W #[.slice a0 len cap, .int .i64 m, .int .u8 k] v W' := by
    intro xs hrep
    refine (Go.Ab.nobody_calls m k hrep).mono fun e W' ⟨he, hw⟩ => ?_
    subst he
    exact ⟨_, rfl, fin W' hw⟩
  rcases open_strings Tryz.underlying22 Tryz.underlying9 cells9 hf with ⟨hcs, hx⟩ | ⟨a, len', cap', ss, hcs, _, hl, hm, hz, hx, hcell, hws⟩
  · simp [Value.cells] at hcs
    obtain ⟨rfl, rfl, rfl⟩ := hcs
    exact go [] ⟨none, 0, 0, [], rfl, rfl, by omega, by omega, rfl, .inl rfl⟩
  · simp [Value.cells] at hcs
    obtain ⟨rfl, rfl, rfl⟩ := hcs
    simp only [Prod.mk.injEq] at hx
    obtain ⟨rfl, rfl⟩ := hx
    simp only [if_true] at hz
    by_cases hl0 : len = 0
    · subst hl0
      exact go [] ⟨some a, 0, cap, [], rfl, rfl, by omega, by simp only [maxLen] at hm; omega, rfl, .inl rfl⟩
    · obtain ⟨b, off, spot⟩ := a
      have hspot : spot = none := by simpa [Addr.add] using World.cell?_spot (hcell 0 (by omega))
      subst hspot
      have hbW : b < W.heap.size := hlt (.cell b off) (MemPlace.mem_row.2 ⟨0, by omega, by simp⟩)
      have hlen : (ss.take len).length = len := by rw [List.length_take]; omega
      have hget : ∀ j, j < len → (ss.take len)[j]? = some (ss.getD j ByteArray.empty) := fun j hj => by
        rw [List.getElem?_take_of_lt hj, List.getD_eq_getElem?_getD, List.getElem?_eq_getElem (by omega)]; rfl
      have hrep : ∀ l : List ByteArray, (∀ s ∈ l, s.size ≤ maxLen) → Go.Ab.RepL (Go.Ab.RepC (fun b => b < W.heap.size) W .str) l (l.map Value.string) := by
        intro l
        induction l with
        | nil => intro _; rfl
        | cons s r ih => intro h; exact ⟨[.string s], r.map Value.string, rfl, ⟨rfl, by have := h s (by simp); simp only [maxLen] at this; show s.size ≤ 9223372036854775807; omega⟩, ih (fun s hs => h s (by simp [hs]))⟩
      refine go (ss.take len) ⟨some ⟨b, off, none⟩, len, cap, (ss.take len).map Value.string, rfl, hlen, hl, by simp only [maxLen] at hm; omega, hrep _ (fun s hs => hws s (List.mem_of_mem_take hs)), .inr ⟨b, off, rfl, hbW, fun j v hj => ?_⟩⟩
      have hj' : j < len := by
        have := (List.getElem?_eq_some_iff.1 hj).1
        rw [List.length_map, hlen] at this; exact this
      rw [List.getElem?_map, hget j hj'] at hj
      cases hj
      rw [← add_plain]
      exact hcell j (by omega)

theorem learnNobody_holds : Rows.LearnNobodySaid :=
  OpenClaim.holds_of_wide 3 Tryz.f3 rfl rfl rfl rfl rfl rfl rfl ⟨rfl, rfl, rfl, rfl, rfl⟩ rfl rfl rfl rfl rfl (by kernel_rfl) Tryz.func3 (by kernel_rfl)
    (of_decide_eq_true (by kernel_rfl)) (by unfold Func.isWrapper; first | (rw [if_pos (by decide +kernel)]; kernel_rfl) | (rw [if_neg (by decide +kernel)]; exact ⟨rfl, rfl⟩))
    (fun os started H enc _ => lifted os started H enc)

theorem learnNobody_card : Rows.LearnNobodyCardSaid :=
  Claim7.holds_tied_plain_at .later [] [.data, .data, .data] true (true, "52b97858c110a9ff1abdd86202bdb4b777e5639f3c1ad2fc60c137bcd2bc22bd") false
    learnNobody_holds (fun _ h => by cases h) (by kernel_rfl) (fun _ h => by cases h) learnNobody_row_tie rfl ⟨rfl, rfl⟩ (by kernel_rfl) rfl
    (fun f fn hf hfn => by
      obtain rfl : f = 3 := Option.some.inj ((show Tryz.prog.funcNamed "makeweight/makeweightlaw19.LearnNobody" = some 3 by kernel_rfl).symm.trans hf) |>.symm
      obtain rfl : fn = Tryz.f3 := (Option.some.inj (Tryz.func3.symm.trans hfn)).symm
      exact ⟨by kernel_rfl, fun j t ht => by
        rw [Tryz.params3] at ht
        have hm : t ∈ [22, 3, 5] := by simpa using Array.mem_of_getElem? ht
        have hall : ([22, 3, 5].all fun u => !Tryz.prog.wantsStandIn u) = true := by kernel_rfl
        exact (show Tryz.prog.wantsStandIn t = false by simpa using List.all_eq_true.1 hall t hm)⟩)
    (by kernel_rfl)
#print axioms learnNobody_card
end
end Go.Proofs.YtdhfgopecekdjaaGreatDoor
