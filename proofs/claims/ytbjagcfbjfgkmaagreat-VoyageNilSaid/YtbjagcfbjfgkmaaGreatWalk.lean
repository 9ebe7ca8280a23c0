/- The law of no voyage, walked: called with any values of its types it hands back true, and what was there is as it was. Conditions: the arguments are well typed. -/
import Derived.Test.YtbjagcfbjfgkmaaGreatRun1
import Derived.Test.YtbjagcfbjfgkmaaGreatRun2
import Derived.Test.YtbjagcfbjfgkmaaGreatRun3
import Derived.Test.YtbjagcfbjfgkmaaGreatRuns
import Derived.WalkKit
import Derived.ProofKit
import Derived.OpenShut
import Derived.ShutString
import Derived.ChangeOld
import Derived.Below
import Derived.SizedLaws
namespace Go.Proofs.YtbjagcfbjfgkmaaGreat
open Go.ChangeShapes Go.WideShapes Go.ChangeAt Go.RowKit Go.Av
theorem lives_row : TblOk Tryz.prog E (oneTrue 5) :=
  Go.Av.good_row E_ok (fn := Tryz.f5) (c := livesC) (by kernel_rfl) (by kernel_rfl)
    (good_part E_ok 6 5000 (ct := cut1) (by kernel_rfl) part1 (good_part E_ok 0 5000 (ct := cut2) (by kernel_rfl) part2 (good_end E_ok 5000 Tryz.func5 part3)))
theorem walk_nil (x y z p : Int) (m : Bool) (W : World) : Calls Tryz.prog 3 #[.agg #[.int .i64 x, .int .i64 y, .int .i64 z, .slice none 0 0], .int .i64 p, .bool m] W fun e W' => e = .returned (.bool true) ∧ Below W.heap.size W W' := by
  have hr : HRel E noPhi oneDead W := ⟨fun _ _ e => (noPhi_some e).elim, fun _ _ _ _ e => (noPhi_some e).elim, fun _ _ e => (noPhi_some e).elim, fun B hB => by rw [oneDead_get, if_neg (by have : oneDead.next = 1 := rfl; omega)]⟩
  have ha : VRels noPhi [.agg [.int .i64 x, .int .i64 y, .int .i64 z, .slice none 0 (.known 0)], .int .i64 p, .bool m] (#[.agg #[.int .i64 x, .int .i64 y, .int .i64 z, .slice none 0 0], .int .i64 p, .bool m] : Array Value).toList := by
    refine .cons ?_ (.cons ?_ (.cons ?_ .nil))
    · simp only [VRel]
      refine ⟨_, rfl, .cons ?_ (.cons ?_ (.cons ?_ (.cons ?_ .nil)))⟩ <;> simp [VRel, SlRel]
    · simp only [VRel]
    · simp only [VRel]
  cases m with
  | true => exact calls_trueD E_ok lives_row (oneTrue_plain 5) 5000 oneDead_mod (run_nil x y z p) hr ha
  | false => exact calls_trueD E_ok lives_row (oneTrue_plain 5) 5000 oneDead_mod (run_nil' x y z p) hr ha
theorem run_some (x y z p : Int) (len c : Nat) (m : Bool) : ask x y z p (.slice (some (0, 0)) len (.known c)) m = true := by
  by_cases h : len ≤ 100
  · cases m with
    | true => exact List.all_eq_true.1 (run_short x y z p c) len (List.mem_range.2 (by omega))
    | false => exact List.all_eq_true.1 (run_short' x y z p c) len (List.mem_range.2 (by omega))
  · obtain ⟨k, rfl⟩ : ∃ k, len = Nat.add k 101 := ⟨len - 101, by have : Nat.add (len - 101) 101 = len - 101 + 101 := rfl; omega⟩
    cases m with
    | true => exact run_long x y z p c k
    | false => exact run_long' x y z p c k
theorem walk_some (x y z p : Int) (b o len c : Nat) (hl : len ≤ c) (m : Bool) (W : World) (hb : b < W.heap.size) : Calls Tryz.prog 3 #[.agg #[.int .i64 x, .int .i64 y, .int .i64 z, .slice (some ⟨b, o, none⟩) len c], .int .i64 p, .bool m] W fun e W' => e = .returned (.bool true) ∧ Below W.heap.size W W' := by
  have ha : VRels (atPhi ⟨b, o, 0⟩) [.agg [.int .i64 x, .int .i64 y, .int .i64 z, .slice (some (0, 0)) len (.known c)], .int .i64 p, .bool m] (#[.agg #[.int .i64 x, .int .i64 y, .int .i64 z, .slice (some ⟨b, o, none⟩) len c], .int .i64 p, .bool m] : Array Value).toList := by
    refine .cons ?_ (.cons ?_ (.cons ?_ .nil))
    · simp only [VRel]
      refine ⟨_, rfl, .cons ?_ (.cons ?_ (.cons ?_ (.cons ?_ .nil)))⟩
      · simp only [VRel]
      · simp only [VRel]
      · simp only [VRel]
      · simp only [VRel, SlRel]
        exact ⟨⟨b, o, 0⟩, o, rfl, rfl, hl, .inr rfl⟩
    · simp only [VRel]
    · simp only [VRel]
  exact calls_trueD E_ok lives_row (oneTrue_plain 5) 5000 oneDead_mod (run_some x y z p len c m) (oneDead_rel (L := ⟨b, o, 0⟩) hb) ha
theorem cell_int {P : Program} {w : World} {r : Reach} {base : Nat} {t : TypeId} {k : IntKind} {v : Value} (hu : P.underlying t = some (.int k)) (h : Cell.okWide P w r base t v) : ∃ n, v = .int k n := by
  simp only [Cell.okWide, Cell.ok, hu] at h
  cases v <;> simp_all
theorem cell_slice {P : Program} {w : World} {r : Reach} {base : Nat} {t e : TypeId} {v : Value} (hu : P.underlying t = some (.slice e)) (h : Cell.okWide P w r base t v) :
    v = .slice none 0 0 ∨ ∃ b o len c, v = .slice (some ⟨b, o, none⟩) len c ∧ len ≤ c ∧ b < w.heap.size := by
  simp only [Cell.okWide, Cell.ok, hu] at h
  cases v with
  | slice a len c =>
    cases a with
    | none =>
      left
      cases len <;> cases c <;> simp_all
    | some a =>
      right
      obtain ⟨b, o, s⟩ := a
      simp only [World.has] at h
      obtain ⟨h1, _, _, rfl, row, cells, h2, _⟩ := h
      refine ⟨b, o, len, c, rfl, h1, ?_⟩
      refine Classical.byContradiction fun hn => ?_
      have : w.heap[b]? = none := Array.getElem?_eq_none (by omega)
      simp [World.shape?, this] at h2
  | _ => simp_all
theorem cells25 : Tryz.prog.cellTypes Tryz.prog.depth 25 = some [22, 3, 3, 23] := by kernel_rfl
theorem size25 : Tryz.prog.cellsOf 25 = 4 := by kernel_rfl
set_option maxRecDepth 100000 in
theorem open25 {W : World} {base : Nat} {v : Value} (h : Value.okWide Tryz.prog W .any base 25 v) : ∃ x y z s, v = .agg #[.int .i64 x, .int .i64 y, .int .i64 z, s] ∧ (s = .slice none 0 0 ∨ ∃ b o len c, s = .slice (some ⟨b, o, none⟩) len c ∧ len ≤ c ∧ b < W.heap.size) := by
  simp only [Value.okWide, Tryz.underlying25] at h
  obtain ⟨cs, rfl, hsz, ts, hts, _, hcell⟩ := h
  rw [cells25] at hts
  cases hts
  rw [size25] at hsz
  obtain ⟨l⟩ := cs
  match l, hsz with
  | [c0, c1, c2, c3], _ =>
    obtain ⟨u0, e0, k0⟩ := hcell 0 c0 rfl
    obtain ⟨u1, e1, k1⟩ := hcell 1 c1 rfl
    obtain ⟨u2, e2, k2⟩ := hcell 2 c2 rfl
    obtain ⟨u3, e3, k3⟩ := hcell 3 c3 rfl
    cases e0; cases e1; cases e2; cases e3
    obtain ⟨x, rfl⟩ := cell_int Tryz.underlying22 k0
    obtain ⟨y, rfl⟩ := cell_int Tryz.underlying3 k1
    obtain ⟨z, rfl⟩ := cell_int Tryz.underlying3 k2
    exact ⟨x, y, z, c3, rfl, cell_slice Tryz.underlying23 k3⟩
set_option maxRecDepth 100000 in
theorem walk (v : Value) (p : Int) (m : Bool) (W : World) {base : Nat} (h : Value.okWide Tryz.prog W .any base 25 v) : Calls Tryz.prog 3 #[v, .int .i64 p, .bool m] W fun e W' => e = .returned (.bool true) ∧ Below W.heap.size W W' := by
  obtain ⟨x, y, z, s, rfl, hs⟩ := open25 h
  rcases hs with rfl | ⟨b, o, len, c, rfl, hl, hb⟩
  · exact walk_nil x y z p m W
  · exact walk_some x y z p b o len c hl m W hb
end Go.Proofs.YtbjagcfbjfgkmaaGreat
