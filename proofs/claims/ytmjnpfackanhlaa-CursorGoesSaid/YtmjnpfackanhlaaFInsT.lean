/- The walk of slices.Insert at marks: what its text does with the runs of its operations. -/
import Derived.Test.YtmjnpfackanhlaaProg
import Derived.Test.YtmjnpfackanhlaaAmIns
import Derived.Shelf.Spec.SlicesInsert
import Derived.WalkKit
namespace Go.Proofs.Ytmjnpfackanhlaa.AM
open Go Go.RowKit Go.Lib
set_option linter.unusedVariables false
set_option linter.unusedSimpArgs false

set_option maxHeartbeats 4000000 in
set_option maxRecDepth 100000 in
theorem ins_shift (b o n c i : Nat) (av : Addr) (vc : Nat) (w w1 w2 : World) (hi : i < n) (hroom : n + 1 ≤ c) (hn63 : n + 1 ≤ 9223372036854775807)
  (hov : ∀ lb cb, (callFunc 102 #[.slice (some av) 1 vc, .slice (some ⟨b, o + (i + 1) * 1, none⟩) lb cb]).run Try.prog w = .ok (.value (.bool false)) w)
  (hcp1 : ∀ dc sc, (Builtin.copy_ #[26, 26] 3 #[.slice (some ⟨b, o + (i + 1) * 1, none⟩) (n - i) dc, .slice (some ⟨b, o + i * 1, none⟩) (n + 1 - i) sc]).run Try.prog w.drew = .ok (goInt (n - i : Nat)) w1)
  (hcp2 : ∀ dc, (Builtin.copy_ #[26, 26] 3 #[.slice (some ⟨b, o + i * 1, none⟩) (n + 1 - i) dc, .slice (some av) 1 vc]).run Try.prog w1 = .ok (goInt 1) w2) :
  Calls Try.prog 53 #[.slice (some ⟨b, o, none⟩) n c, .int .i64 i, .slice (some av) 1 vc] w fun e w' =>
   e = .returned (.slice (some ⟨b, o, none⟩) (n + 1) c) ∧ w' = w2 := by
 have mixed : Try.prog.follows .mixedOrders = true := by kernel_rfl
 have hz2 : ¬ ((i : Int) = (n : Int)) := by omega
 have hw1 : IntKind.i64.wrap ((i : Int) + 1) = (i : Int) + 1 := by rw [IntKind.wrap_i64]; omega
 have hw2 : IntKind.i64.wrap ((n : Int) + 1) = (n : Int) + 1 := by rw [IntKind.wrap_i64]; omega
 have hb1 : (0 : Int) ≤ (i : Int) + 1 := by omega
 have hin : i ≤ n := by omega
 have htn : ((i : Int) + 1).toNat = i + 1 := by omega
 have hb2 : ¬ (c = i + 1) := by omega
 have hb3 : (i : Int) ≤ (n : Int) + 1 := by omega
 have hb4 : ¬ (c = i) := by omega
 simp only [Nat.mul_one] at hov hcp1 hcp2
 go_enter Try.func53, Try.ntmps53
 go_wp2_with (simp only [hov])
 go_region_law_o (refine step_copy_runI rfl _ _ 26 26 rfl (.slice (some ⟨b, o + (i + 1), none⟩) (n - i) (c - (i + 1))) (.slice (some ⟨b, o + i, none⟩) (n + 1 - i) (c - i)) (by simp [Act.eval, Act.put]; try omega) (by simp [Act.eval, Act.put]; try omega) (hcp1 _ _) ?_)
 go_wp2_with (at_builtin; refine wpList_copy_runI _ rfl _ _ 26 26 rfl _ _ rfl rfl (hcp2 _) ?_)
 go_ret
 exact ⟨rfl, rfl⟩

set_option maxHeartbeats 4000000 in
set_option maxRecDepth 100000 in
theorem ins_grow (b o n c i g G : Nat) (av : Addr) (vc : Nat) (w w1 w2 w3 : World) (hi : i < n) (hnc : n ≤ c) (hroom : c < n + 1) (hn63 : n + 1 ≤ 9223372036854775807) (hG : n + 1 ≤ G)
  (hrz : (Builtin.append_ #[26, 3] 26 #[.slice (some ⟨b, o, none⟩) i c, .int .i64 ((n : Int) + 1 - (i : Int))]).run Try.prog w = .ok (.slice (some ⟨g, 0, none⟩) (n + 1) G) w1)
  (hcp1 : ∀ dc, (Builtin.copy_ #[26, 26] 3 #[.slice (some ⟨g, i * 1, none⟩) (n + 1 - i) dc, .slice (some av) 1 vc]).run Try.prog w1 = .ok (goInt 1) w2)
  (hcp2 : ∀ dc sc, (Builtin.copy_ #[26, 26] 3 #[.slice (some ⟨g, (i + 1) * 1, none⟩) (n - i) dc, .slice (some ⟨b, o + i * 1, none⟩) (n - i) sc]).run Try.prog w2.drew = .ok (goInt (n - i : Nat)) w3) :
  Calls Try.prog 53 #[.slice (some ⟨b, o, none⟩) n c, .int .i64 i, .slice (some av) 1 vc] w fun e w' =>
   e = .returned (.slice (some ⟨g, 0, none⟩) (n + 1) G) ∧ w' = w3 := by
 have mixed : Try.prog.follows .mixedOrders = true := by kernel_rfl
 have hz2 : ¬ ((i : Int) = (n : Int)) := by omega
 have hz3 : (c : Int) < (n : Int) + 1 := by omega
 have hw1 : IntKind.i64.wrap ((i : Int) + 1) = (i : Int) + 1 := by rw [IntKind.wrap_i64]; omega
 have hw2 : IntKind.i64.wrap ((n : Int) + 1) = (n : Int) + 1 := by rw [IntKind.wrap_i64]; omega
 have hw3 : IntKind.i64.wrap ((n : Int) + 1 - (i : Int)) = (n : Int) + 1 - (i : Int) := by rw [IntKind.wrap_i64]; omega
 have hb1 : (0 : Int) ≤ (i : Int) + 1 := by omega
 have hin : i ≤ n := by omega
 have htn : ((i : Int) + 1).toNat = i + 1 := by omega
 have hGi : ¬ (G = i) := by omega
 have hGim : ¬ (G = i + 1) := by omega
 have hci : ¬ (c = i) := by omega
 have hb3 : (i : Int) ≤ (n : Int) := by omega
 simp only [Nat.mul_one] at hcp1 hcp2
 go_enter Try.func53, Try.ntmps53
 go_wp2_with (first
  | (at_builtin; refine Lib.wpList_append_run _ rfl _ _ _ _ rfl _ _ rfl rfl _ _ hrz ?_)
  | (at_builtin; refine wpList_copy_runI _ rfl _ _ 26 26 rfl _ _ rfl rfl (hcp1 _) ?_))
 go_region_law_o (refine step_copy_runI rfl _ _ 26 26 rfl (.slice (some ⟨g, (i + 1), none⟩) (n - i) (G - (i + 1))) (.slice (some ⟨b, o + i, none⟩) (n - i) (c - i)) (by simp [Act.eval, Act.put]; try omega) (by simp [Act.eval, Act.put]; try omega) (hcp2 _ _) ?_)
 go_wp2
 go_ret
 exact ⟨rfl, rfl⟩

set_option maxHeartbeats 4000000 in
set_option maxRecDepth 100000 in
theorem ins_fin (V : Value) (p : Option Addr) (n c : Nat) (w w1 : World) (hnc : n ≤ c) (av : Addr) (vc : Nat)
  (hrun : (Builtin.append_ #[26, 26] 26 #[.slice p n c, .slice (some av) 1 vc]).run Try.prog w = .ok V w1) :
  Calls Try.prog 53 #[.slice p n c, .int .i64 n, .slice (some av) 1 vc] w fun e w' => e = .returned V ∧ w' = w1 := by
 have mixed : Try.prog.follows .mixedOrders = true := by kernel_rfl
 go_enter Try.func53, Try.ntmps53
 cases p with
 | none =>
  go_wp2_with (at_builtin; refine Lib.wpList_append_run _ rfl _ _ _ _ rfl _ _ rfl rfl _ _ hrun ?_)
  go_ret
  exact ⟨rfl, rfl⟩
 | some a =>
  obtain ⟨ab, ao, asp⟩ := a
  go_wp2_with (at_builtin; refine Lib.wpList_append_run _ rfl _ _ _ _ rfl _ _ rfl rfl _ _ hrun ?_)
  all_goals (go_ret; exact ⟨rfl, rfl⟩)

theorem insP : ∃ info, InsW Try.prog 53 26 32 102 1 4 info [.int .u32 0] := by
 have hi : (Try.prog.info? 32).map (fun i => (i.size, i.bytes)) = some (1, 4) := by kernel_rfl
 cases hq : Try.prog.info? 32 with
 | none => rw [hq] at hi; cases hi
 | some info =>
  rw [hq] at hi
  simp only [Option.map_some, Option.some.injEq, Prod.mk.injEq] at hi
  refine ⟨info, ?_, Try.underlying26, Try.underlying3, hq, hi.1, hi.2, by decide, by kernel_rfl, rfl, by decide, fun args w => run_callFunc_extern Try.func102 (by kernel_rfl) (by kernel_rfl) (by kernel_rfl) (by kernel_rfl) args w, ?_, ?_, ?_⟩
  ·exact fun args w => by
    have hb : Try.f53.body.isSome = true := by kernel_rfl
    have hname : (Try.f53.name == "runtime.NumGoroutine") = false := by kernel_rfl
    obtain ⟨c, hc⟩ := Option.isSome_iff_exists.1 hb
    have hname' : ¬ Try.f53.name = "runtime.NumGoroutine" := by simpa using hname
    simp [callFunc, program, Sem.run_bind, Sem.run, Try.func53, hname', hc]
  ·rintro x V p n c w w1 rfl hnc av vc hrun
   exact ins_fin V p n c w w1 hnc av vc hrun
  ·intro b o n c i av vc w w1 w2 hi hr hn hov h1 h2
   exact ins_shift b o n c i av vc w w1 w2 hi hr hn hov h1 h2
  ·intro b o n c i gb G av vc w w1 w2 w3 hi hnc hno hn hG h1 h2 h3
   exact ins_grow b o n c i gb G av vc w w1 w2 w3 hi hnc hno hn hG h1 h2 h3
#print axioms insP
end Go.Proofs.Ytmjnpfackanhlaa.AM
