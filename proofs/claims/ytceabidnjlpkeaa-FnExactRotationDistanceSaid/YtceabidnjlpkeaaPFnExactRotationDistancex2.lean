-- PRINTED BY print.sh 35421559b90ae4d0a3588c463048766b98c2df88dd9212a6774a882060cdf62d: not written by this session
import Derived.Test.YtceabidnjlpkeaaPFnExactRotationDistancex0
import Derived.Test.YtceabidnjlpkeaaPFnExactRotationDistancex1
namespace Go.Proofs.Ytceabidnjlpkeaa.PFnExactRotationDistance
open Go.RowKit Go.Proofs.YtceabidnjlpkeaaW.PrintWords Go.Proofs.YtceabidnjlpkeaaW.PrintLast Go.Proofs.YtceabidnjlpkeaaW.PrintMore
attribute [local go_sem] max2_int min2_int max_two min_two max_three min_three max_four min_four   -- for this text's walks alone
set_option linter.unusedVariables false
set_option linter.unusedSimpArgs false

/-! ### spec_brRotate: function 91 -/
def spec_brRotate.f (k : Nat) (a0 : ByteArray) (a1 : Bool) : Option (ByteArray × Bool) := (spec_trLeaf.f a0).bind fun t113 => (if t113 = true then (some ((⟨#[]⟩ : ByteArray), false)) else ((spec_trSides.f k a0).bind fun bt114 => (if a1 = true then ((spec_trLeaf.f bt114.2).bind fun t116 => (if t116 = true then (some ((⟨#[]⟩ : ByteArray), false)) else ((spec_trSides.f k bt114.2).bind fun bt117 => ((spec_trOf.f bt114.1 bt117.1).bind fun t119 => ((spec_trOf.f t119 bt117.2).bind fun t120 => (some (t120, true))))))) else ((spec_trLeaf.f bt114.1).bind fun t121 => (if t121 = true then (some ((⟨#[]⟩ : ByteArray), false)) else ((spec_trSides.f k bt114.1).bind fun bt122 => ((spec_trOf.f bt122.2 bt114.2).bind fun t124 => ((spec_trOf.f bt122.1 t124).bind fun t125 => (some (t125, true))))))))))
theorem spec_brRotate.mono : ∀ a0 a1 k, LeO (spec_brRotate.f k a0 a1) (spec_brRotate.f (k + 1) a0 a1) := by
  intro a0 a1 k
  unfold spec_brRotate.f
  repeat' first
      | (with_reducible exact spec_trSides.mono _ _)
      | (with_reducible exact LeO.refl _)
      | (with_reducible exact LeO.none _)
      | (with_reducible refine LeO.ite ?_ ?_)
      | (with_reducible refine LeO.bind ?_ (fun _ => ?_))
      | exact spec_trSides.mono _ _
      | exact LeO.none _
      | refine LeO.ite ?_ ?_
      | refine LeO.bind ?_ (fun _ => ?_)
set_option maxHeartbeats 8000000 in
set_option maxRecDepth 100000 in
theorem spec_brRotate.calls (k : Nat) (a0 : ByteArray) (a1 : Bool) (r1 : ByteArray) (r2 : Bool) (w : World) (h : spec_brRotate.f k a0 a1 = some (r1, r2)) :
    Calls Try.prog 91 #[.string a0, .bool a1] w fun e w' => e = .returned (.tuple #[.string r1, .bool r2]) ∧ Drawn0 w w' := by
  have H : ((spec_trLeaf.f a0).bind fun t113 => (if t113 = true then (some ((⟨#[]⟩ : ByteArray), false)) else ((spec_trSides.f k a0).bind fun bt114 => (if a1 = true then ((spec_trLeaf.f bt114.2).bind fun t116 => (if t116 = true then (some ((⟨#[]⟩ : ByteArray), false)) else ((spec_trSides.f k bt114.2).bind fun bt117 => ((spec_trOf.f bt114.1 bt117.1).bind fun t119 => ((spec_trOf.f t119 bt117.2).bind fun t120 => (some (t120, true))))))) else ((spec_trLeaf.f bt114.1).bind fun t121 => (if t121 = true then (some ((⟨#[]⟩ : ByteArray), false)) else ((spec_trSides.f k bt114.1).bind fun bt122 => ((spec_trOf.f bt122.2 bt114.2).bind fun t124 => ((spec_trOf.f bt122.1 t124).bind fun t125 => (some (t125, true))))))))))) = some (r1, r2) := h
  clear h
  replace H := Option.bind_eq_some_iff.mp H
  obtain ⟨t113, A30, H⟩ := H
  replace H : (if t113 = true then (some ((⟨#[]⟩ : ByteArray), false)) else ((spec_trSides.f k a0).bind fun bt114 => (if a1 = true then ((spec_trLeaf.f bt114.2).bind fun t116 => (if t116 = true then (some ((⟨#[]⟩ : ByteArray), false)) else ((spec_trSides.f k bt114.2).bind fun bt117 => ((spec_trOf.f bt114.1 bt117.1).bind fun t119 => ((spec_trOf.f t119 bt117.2).bind fun t120 => (some (t120, true))))))) else ((spec_trLeaf.f bt114.1).bind fun t121 => (if t121 = true then (some ((⟨#[]⟩ : ByteArray), false)) else ((spec_trSides.f k bt114.1).bind fun bt122 => ((spec_trOf.f bt122.2 bt114.2).bind fun t124 => ((spec_trOf.f bt122.1 t124).bind fun t125 => (some (t125, true)))))))))) = some (r1, r2) := H
  have A3 := Aside0.mk A30
  clear A30
  by_cases c4 : t113 = true
  · subst c4
    have H1 : (some ((⟨#[]⟩ : ByteArray), false)) = some (r1, r2) := by rw [if_pos rfl] at H; exact H
    clear H
    have H := H1
    clear H1
    simp only [Option.some.injEq, Prod.mk.injEq] at H
    obtain ⟨rfl, rfl⟩ := H
    go_enter Try.func91, Try.ntmps91
    go_wp2_with (first | ((with_reducible refine gate_callee (f := 90) rfl ?_); refine goesL_ (some 13) rfl rfl Try.func90 (by kernel_rfl) rfl #[.string a0] rfl (by (try simp only [List.map_toArray, List.map_cons, List.map_nil]); first | done | rfl | (simp only [List.length_drop, List.length_take]; rfl)) ?_; (with_reducible refine (spec_trLeaf.calls a0 true _ A3.out).mono ?_); rintro e w' ⟨rfl, ⟨nd, rfl⟩⟩; refine ⟨_, rfl, ?_⟩))
    go_ret2
    exact ⟨by first | rfl | (simp; done) | (simp [*]; done), by repeat (first | exact Drawn0.refl _ | apply Drawn0.step)⟩
  · replace c4 := Bool.eq_false_iff.mpr c4
    subst c4
    have H1 : ((spec_trSides.f k a0).bind fun bt114 => (if a1 = true then ((spec_trLeaf.f bt114.2).bind fun t116 => (if t116 = true then (some ((⟨#[]⟩ : ByteArray), false)) else ((spec_trSides.f k bt114.2).bind fun bt117 => ((spec_trOf.f bt114.1 bt117.1).bind fun t119 => ((spec_trOf.f t119 bt117.2).bind fun t120 => (some (t120, true))))))) else ((spec_trLeaf.f bt114.1).bind fun t121 => (if t121 = true then (some ((⟨#[]⟩ : ByteArray), false)) else ((spec_trSides.f k bt114.1).bind fun bt122 => ((spec_trOf.f bt122.2 bt114.2).bind fun t124 => ((spec_trOf.f bt122.1 t124).bind fun t125 => (some (t125, true))))))))) = some (r1, r2) := by rw [if_neg (show ¬ (false = true) by decide)] at H; exact H
    clear H
    have H := H1
    clear H1
    replace H := Option.bind_eq_some_iff.mp H
    obtain ⟨⟨t114, t115⟩, A50, H⟩ := H
    replace H : (if a1 = true then ((spec_trLeaf.f t115).bind fun t116 => (if t116 = true then (some ((⟨#[]⟩ : ByteArray), false)) else ((spec_trSides.f k t115).bind fun bt117 => ((spec_trOf.f t114 bt117.1).bind fun t119 => ((spec_trOf.f t119 bt117.2).bind fun t120 => (some (t120, true))))))) else ((spec_trLeaf.f t114).bind fun t121 => (if t121 = true then (some ((⟨#[]⟩ : ByteArray), false)) else ((spec_trSides.f k t114).bind fun bt122 => ((spec_trOf.f bt122.2 t115).bind fun t124 => ((spec_trOf.f bt122.1 t124).bind fun t125 => (some (t125, true)))))))) = some (r1, r2) := H
    have A5 := Aside0.mk A50
    clear A50
    by_cases c6 : a1 = true
    · subst c6
      have H1 : ((spec_trLeaf.f t115).bind fun t116 => (if t116 = true then (some ((⟨#[]⟩ : ByteArray), false)) else ((spec_trSides.f k t115).bind fun bt117 => ((spec_trOf.f t114 bt117.1).bind fun t119 => ((spec_trOf.f t119 bt117.2).bind fun t120 => (some (t120, true))))))) = some (r1, r2) := by rw [if_pos rfl] at H; exact H
      clear H
      have H := H1
      clear H1
      replace H := Option.bind_eq_some_iff.mp H
      obtain ⟨t116, A70, H⟩ := H
      replace H : (if t116 = true then (some ((⟨#[]⟩ : ByteArray), false)) else ((spec_trSides.f k t115).bind fun bt117 => ((spec_trOf.f t114 bt117.1).bind fun t119 => ((spec_trOf.f t119 bt117.2).bind fun t120 => (some (t120, true)))))) = some (r1, r2) := H
      have A7 := Aside0.mk A70
      clear A70
      by_cases c8 : t116 = true
      · subst c8
        have H1 : (some ((⟨#[]⟩ : ByteArray), false)) = some (r1, r2) := by rw [if_pos rfl] at H; exact H
        clear H
        have H := H1
        clear H1
        simp only [Option.some.injEq, Prod.mk.injEq] at H
        obtain ⟨rfl, rfl⟩ := H
        go_enter Try.func91, Try.ntmps91
        go_wp2_with (first | ((with_reducible refine gate_callee (f := 90) rfl ?_); refine goesL_ (some 13) rfl rfl Try.func90 (by kernel_rfl) rfl #[.string a0] rfl (by (try simp only [List.map_toArray, List.map_cons, List.map_nil]); first | done | rfl | (simp only [List.length_drop, List.length_take]; rfl)) ?_; (with_reducible refine (spec_trLeaf.calls a0 false _ A3.out).mono ?_); rintro e w' ⟨rfl, ⟨nd, rfl⟩⟩; refine ⟨_, rfl, ?_⟩) | ((with_reducible refine gate_callee (f := 92) rfl ?_); refine goesL_ (some 16) rfl rfl Try.func92 (by kernel_rfl) rfl #[.string a0] rfl (by (try simp only [List.map_toArray, List.map_cons, List.map_nil]); first | done | rfl | (simp only [List.length_drop, List.length_take]; rfl)) ?_; (with_reducible refine (spec_trSides.calls k a0 t114 t115 _ A5.out).mono ?_); rintro e w' ⟨rfl, ⟨nd, rfl⟩⟩; refine ⟨_, rfl, ?_⟩) | ((with_reducible refine gate_callee (f := 90) rfl ?_); refine goesL_ (some 21) rfl rfl Try.func90 (by kernel_rfl) rfl #[.string t115] rfl (by (try simp only [List.map_toArray, List.map_cons, List.map_nil]); first | done | rfl | (simp only [List.length_drop, List.length_take]; rfl)) ?_; (with_reducible refine (spec_trLeaf.calls t115 true _ A7.out).mono ?_); rintro e w' ⟨rfl, ⟨nd, rfl⟩⟩; refine ⟨_, rfl, ?_⟩))
        go_ret2
        exact ⟨by first | rfl | (simp; done) | (simp [*]; done), by repeat (first | exact Drawn0.refl _ | apply Drawn0.step)⟩
      · replace c8 := Bool.eq_false_iff.mpr c8
        subst c8
        have H1 : ((spec_trSides.f k t115).bind fun bt117 => ((spec_trOf.f t114 bt117.1).bind fun t119 => ((spec_trOf.f t119 bt117.2).bind fun t120 => (some (t120, true))))) = some (r1, r2) := by rw [if_neg (show ¬ (false = true) by decide)] at H; exact H
        clear H
        have H := H1
        clear H1
        replace H := Option.bind_eq_some_iff.mp H
        obtain ⟨⟨t117, t118⟩, A90, H⟩ := H
        replace H : ((spec_trOf.f t114 t117).bind fun t119 => ((spec_trOf.f t119 t118).bind fun t120 => (some (t120, true)))) = some (r1, r2) := H
        have A9 := Aside0.mk A90
        clear A90
        replace H := Option.bind_eq_some_iff.mp H
        obtain ⟨t119, A100, H⟩ := H
        replace H : ((spec_trOf.f t119 t118).bind fun t120 => (some (t120, true))) = some (r1, r2) := H
        have A10 := Aside0.mk A100
        clear A100
        replace H := Option.bind_eq_some_iff.mp H
        obtain ⟨t120, A110, H⟩ := H
        replace H : (some (t120, true)) = some (r1, r2) := H
        have A11 := Aside0.mk A110
        clear A110
        simp only [Option.some.injEq, Prod.mk.injEq] at H
        obtain ⟨rfl, rfl⟩ := H
        go_enter Try.func91, Try.ntmps91
        go_wp2_with (first | ((with_reducible refine gate_callee (f := 90) rfl ?_); refine goesL_ (some 13) rfl rfl Try.func90 (by kernel_rfl) rfl #[.string a0] rfl (by (try simp only [List.map_toArray, List.map_cons, List.map_nil]); first | done | rfl | (simp only [List.length_drop, List.length_take]; rfl)) ?_; (with_reducible refine (spec_trLeaf.calls a0 false _ A3.out).mono ?_); rintro e w' ⟨rfl, ⟨nd, rfl⟩⟩; refine ⟨_, rfl, ?_⟩) | ((with_reducible refine gate_callee (f := 92) rfl ?_); refine goesL_ (some 16) rfl rfl Try.func92 (by kernel_rfl) rfl #[.string a0] rfl (by (try simp only [List.map_toArray, List.map_cons, List.map_nil]); first | done | rfl | (simp only [List.length_drop, List.length_take]; rfl)) ?_; (with_reducible refine (spec_trSides.calls k a0 t114 t115 _ A5.out).mono ?_); rintro e w' ⟨rfl, ⟨nd, rfl⟩⟩; refine ⟨_, rfl, ?_⟩) | ((with_reducible refine gate_callee (f := 90) rfl ?_); refine goesL_ (some 21) rfl rfl Try.func90 (by kernel_rfl) rfl #[.string t115] rfl (by (try simp only [List.map_toArray, List.map_cons, List.map_nil]); first | done | rfl | (simp only [List.length_drop, List.length_take]; rfl)) ?_; (with_reducible refine (spec_trLeaf.calls t115 false _ A7.out).mono ?_); rintro e w' ⟨rfl, ⟨nd, rfl⟩⟩; refine ⟨_, rfl, ?_⟩) | ((with_reducible refine gate_callee (f := 92) rfl ?_); refine goesL_ (some 24) rfl rfl Try.func92 (by kernel_rfl) rfl #[.string t115] rfl (by (try simp only [List.map_toArray, List.map_cons, List.map_nil]); first | done | rfl | (simp only [List.length_drop, List.length_take]; rfl)) ?_; (with_reducible refine (spec_trSides.calls k t115 t117 t118 _ A9.out).mono ?_); rintro e w' ⟨rfl, ⟨nd, rfl⟩⟩; refine ⟨_, rfl, ?_⟩) | ((with_reducible refine gate_callee (f := 57) rfl ?_); refine goesL_ (some 29) rfl rfl Try.func57 (by kernel_rfl) rfl #[.string t114, .string t117] rfl (by (try simp only [List.map_toArray, List.map_cons, List.map_nil]); first | done | rfl | (simp only [List.length_drop, List.length_take]; rfl)) ?_; (with_reducible refine (spec_trOf.calls t114 t117 t119 _ A10.out).mono ?_); rintro e w' ⟨rfl, ⟨nd, rfl⟩⟩; refine ⟨_, rfl, ?_⟩) | ((with_reducible refine gate_callee (f := 57) rfl ?_); refine goesL_ (some 31) rfl rfl Try.func57 (by kernel_rfl) rfl #[.string t119, .string t118] rfl (by (try simp only [List.map_toArray, List.map_cons, List.map_nil]); first | done | rfl | (simp only [List.length_drop, List.length_take]; rfl)) ?_; (with_reducible refine (spec_trOf.calls t119 t118 t120 _ A11.out).mono ?_); rintro e w' ⟨rfl, ⟨nd, rfl⟩⟩; refine ⟨_, rfl, ?_⟩))
        go_ret2
        exact ⟨by first | rfl | (simp; done) | (simp [*]; done), by repeat (first | exact Drawn0.refl _ | apply Drawn0.step)⟩
    · replace c6 := Bool.eq_false_iff.mpr c6
      subst c6
      have H1 : ((spec_trLeaf.f t114).bind fun t121 => (if t121 = true then (some ((⟨#[]⟩ : ByteArray), false)) else ((spec_trSides.f k t114).bind fun bt122 => ((spec_trOf.f bt122.2 t115).bind fun t124 => ((spec_trOf.f bt122.1 t124).bind fun t125 => (some (t125, true))))))) = some (r1, r2) := by rw [if_neg (show ¬ (false = true) by decide)] at H; exact H
      clear H
      have H := H1
      clear H1
      replace H := Option.bind_eq_some_iff.mp H
      obtain ⟨t121, A120, H⟩ := H
      replace H : (if t121 = true then (some ((⟨#[]⟩ : ByteArray), false)) else ((spec_trSides.f k t114).bind fun bt122 => ((spec_trOf.f bt122.2 t115).bind fun t124 => ((spec_trOf.f bt122.1 t124).bind fun t125 => (some (t125, true)))))) = some (r1, r2) := H
      have A12 := Aside0.mk A120
      clear A120
      by_cases c13 : t121 = true
      · subst c13
        have H1 : (some ((⟨#[]⟩ : ByteArray), false)) = some (r1, r2) := by rw [if_pos rfl] at H; exact H
        clear H
        have H := H1
        clear H1
        simp only [Option.some.injEq, Prod.mk.injEq] at H
        obtain ⟨rfl, rfl⟩ := H
        go_enter Try.func91, Try.ntmps91
        go_wp2_with (first | ((with_reducible refine gate_callee (f := 90) rfl ?_); refine goesL_ (some 13) rfl rfl Try.func90 (by kernel_rfl) rfl #[.string a0] rfl (by (try simp only [List.map_toArray, List.map_cons, List.map_nil]); first | done | rfl | (simp only [List.length_drop, List.length_take]; rfl)) ?_; (with_reducible refine (spec_trLeaf.calls a0 false _ A3.out).mono ?_); rintro e w' ⟨rfl, ⟨nd, rfl⟩⟩; refine ⟨_, rfl, ?_⟩) | ((with_reducible refine gate_callee (f := 92) rfl ?_); refine goesL_ (some 16) rfl rfl Try.func92 (by kernel_rfl) rfl #[.string a0] rfl (by (try simp only [List.map_toArray, List.map_cons, List.map_nil]); first | done | rfl | (simp only [List.length_drop, List.length_take]; rfl)) ?_; (with_reducible refine (spec_trSides.calls k a0 t114 t115 _ A5.out).mono ?_); rintro e w' ⟨rfl, ⟨nd, rfl⟩⟩; refine ⟨_, rfl, ?_⟩) | ((with_reducible refine gate_callee (f := 90) rfl ?_); refine goesL_ (some 33) rfl rfl Try.func90 (by kernel_rfl) rfl #[.string t114] rfl (by (try simp only [List.map_toArray, List.map_cons, List.map_nil]); first | done | rfl | (simp only [List.length_drop, List.length_take]; rfl)) ?_; (with_reducible refine (spec_trLeaf.calls t114 true _ A12.out).mono ?_); rintro e w' ⟨rfl, ⟨nd, rfl⟩⟩; refine ⟨_, rfl, ?_⟩))
        go_ret2
        exact ⟨by first | rfl | (simp; done) | (simp [*]; done), by repeat (first | exact Drawn0.refl _ | apply Drawn0.step)⟩
      · replace c13 := Bool.eq_false_iff.mpr c13
        subst c13
        have H1 : ((spec_trSides.f k t114).bind fun bt122 => ((spec_trOf.f bt122.2 t115).bind fun t124 => ((spec_trOf.f bt122.1 t124).bind fun t125 => (some (t125, true))))) = some (r1, r2) := by rw [if_neg (show ¬ (false = true) by decide)] at H; exact H
        clear H
        have H := H1
        clear H1
        replace H := Option.bind_eq_some_iff.mp H
        obtain ⟨⟨t122, t123⟩, A140, H⟩ := H
        replace H : ((spec_trOf.f t123 t115).bind fun t124 => ((spec_trOf.f t122 t124).bind fun t125 => (some (t125, true)))) = some (r1, r2) := H
        have A14 := Aside0.mk A140
        clear A140
        replace H := Option.bind_eq_some_iff.mp H
        obtain ⟨t124, A150, H⟩ := H
        replace H : ((spec_trOf.f t122 t124).bind fun t125 => (some (t125, true))) = some (r1, r2) := H
        have A15 := Aside0.mk A150
        clear A150
        replace H := Option.bind_eq_some_iff.mp H
        obtain ⟨t125, A160, H⟩ := H
        replace H : (some (t125, true)) = some (r1, r2) := H
        have A16 := Aside0.mk A160
        clear A160
        simp only [Option.some.injEq, Prod.mk.injEq] at H
        obtain ⟨rfl, rfl⟩ := H
        go_enter Try.func91, Try.ntmps91
        go_wp2_with (first | ((with_reducible refine gate_callee (f := 90) rfl ?_); refine goesL_ (some 13) rfl rfl Try.func90 (by kernel_rfl) rfl #[.string a0] rfl (by (try simp only [List.map_toArray, List.map_cons, List.map_nil]); first | done | rfl | (simp only [List.length_drop, List.length_take]; rfl)) ?_; (with_reducible refine (spec_trLeaf.calls a0 false _ A3.out).mono ?_); rintro e w' ⟨rfl, ⟨nd, rfl⟩⟩; refine ⟨_, rfl, ?_⟩) | ((with_reducible refine gate_callee (f := 92) rfl ?_); refine goesL_ (some 16) rfl rfl Try.func92 (by kernel_rfl) rfl #[.string a0] rfl (by (try simp only [List.map_toArray, List.map_cons, List.map_nil]); first | done | rfl | (simp only [List.length_drop, List.length_take]; rfl)) ?_; (with_reducible refine (spec_trSides.calls k a0 t114 t115 _ A5.out).mono ?_); rintro e w' ⟨rfl, ⟨nd, rfl⟩⟩; refine ⟨_, rfl, ?_⟩) | ((with_reducible refine gate_callee (f := 90) rfl ?_); refine goesL_ (some 33) rfl rfl Try.func90 (by kernel_rfl) rfl #[.string t114] rfl (by (try simp only [List.map_toArray, List.map_cons, List.map_nil]); first | done | rfl | (simp only [List.length_drop, List.length_take]; rfl)) ?_; (with_reducible refine (spec_trLeaf.calls t114 false _ A12.out).mono ?_); rintro e w' ⟨rfl, ⟨nd, rfl⟩⟩; refine ⟨_, rfl, ?_⟩) | ((with_reducible refine gate_callee (f := 92) rfl ?_); refine goesL_ (some 36) rfl rfl Try.func92 (by kernel_rfl) rfl #[.string t114] rfl (by (try simp only [List.map_toArray, List.map_cons, List.map_nil]); first | done | rfl | (simp only [List.length_drop, List.length_take]; rfl)) ?_; (with_reducible refine (spec_trSides.calls k t114 t122 t123 _ A14.out).mono ?_); rintro e w' ⟨rfl, ⟨nd, rfl⟩⟩; refine ⟨_, rfl, ?_⟩) | ((with_reducible refine gate_callee (f := 57) rfl ?_); refine goesL_ (some 42) rfl rfl Try.func57 (by kernel_rfl) rfl #[.string t123, .string t115] rfl (by (try simp only [List.map_toArray, List.map_cons, List.map_nil]); first | done | rfl | (simp only [List.length_drop, List.length_take]; rfl)) ?_; (with_reducible refine (spec_trOf.calls t123 t115 t124 _ A15.out).mono ?_); rintro e w' ⟨rfl, ⟨nd, rfl⟩⟩; refine ⟨_, rfl, ?_⟩) | ((with_reducible refine gate_callee (f := 57) rfl ?_); refine goesL_ (some 43) rfl rfl Try.func57 (by kernel_rfl) rfl #[.string t122, .string t124] rfl (by (try simp only [List.map_toArray, List.map_cons, List.map_nil]); first | done | rfl | (simp only [List.length_drop, List.length_take]; rfl)) ?_; (with_reducible refine (spec_trOf.calls t122 t124 t125 _ A16.out).mono ?_); rintro e w' ⟨rfl, ⟨nd, rfl⟩⟩; refine ⟨_, rfl, ?_⟩))
        go_ret2
        exact ⟨by first | rfl | (simp; done) | (simp [*]; done), by repeat (first | exact Drawn0.refl _ | apply Drawn0.step)⟩

/-! ### spec_brPlaces: function 69 -/
def spec_brPlaces.f : Nat → ByteArray → ByteArray → Bool → Option (List ByteArray)
  | 0, _, _, _ => none
  | k + 1, a0, a1, a2 => (spec_trLeaf.f a0).bind fun t126 => (if t126 = true then (some ([] : List ByteArray)) else ((spec_brRotate.f k a0 a2).bind fun bt127 => (if bt127.2 = true then (if ([] : List ByteArray).length < 8796093022208 then ((some (([] : List ByteArray) ++ [a1] : List ByteArray)).bind fun y129 => ((spec_trSides.f k a0).bind fun bt132 => (if a1.size + 1 ≤ 9223372036854775807 then ((spec_brPlaces.f k bt132.1 (a1 ++ (⟨#[48]⟩ : ByteArray)) a2).bind fun t134 => (if y129.length + t134.length < 8796093022208 then ((some (y129 ++ t134 : List ByteArray)).bind fun y137 => ((spec_brPlaces.f k bt132.2 (a1 ++ (⟨#[49]⟩ : ByteArray)) a2).bind fun t140 => (if y137.length + t140.length < 8796093022208 then (some (y137 ++ t140)) else (none)))) else (none))) else (none)))) else (none)) else ((spec_trSides.f k a0).bind fun bt146 => (if a1.size + 1 ≤ 9223372036854775807 then ((spec_brPlaces.f k bt146.1 (a1 ++ (⟨#[48]⟩ : ByteArray)) a2).bind fun t148 => (if ([] : List ByteArray).length + t148.length < 8796093022208 then ((some (([] : List ByteArray) ++ t148 : List ByteArray)).bind fun y151 => ((spec_brPlaces.f k bt146.2 (a1 ++ (⟨#[49]⟩ : ByteArray)) a2).bind fun t154 => (if y151.length + t154.length < 8796093022208 then (some (y151 ++ t154)) else (none)))) else (none))) else (none))))))
theorem spec_brPlaces.mono_l : ∀ k, (∀ y0 y1 y2, LeO (spec_brPlaces.f k y0 y1 y2) (spec_brPlaces.f (k + 1) y0 y1 y2))
  | 0 => fun _ _ _ r h => by simp [spec_brPlaces.f] at h
  | k + 1 => by
    have ih0 := spec_brPlaces.mono_l k
    · intro y0 y1 y2
      unfold spec_brPlaces.f
      repeat' first
      | (with_reducible exact ih0 _ _ _)
      | (with_reducible exact spec_brRotate.mono _ _ _)
      | (with_reducible exact spec_trSides.mono _ _)
      | (with_reducible exact LeO.refl _)
      | (with_reducible exact LeO.none _)
      | (with_reducible refine LeO.ite ?_ ?_)
      | (with_reducible refine LeO.bind ?_ (fun _ => ?_))
      | exact ih0 _ _ _
      | exact spec_brRotate.mono _ _ _
      | exact spec_trSides.mono _ _
      | exact LeO.none _
      | refine LeO.ite ?_ ?_
      | refine LeO.bind ?_ (fun _ => ?_)
theorem spec_brPlaces.mono : ∀ a0 a1 a2 k, LeO (spec_brPlaces.f k a0 a1 a2) (spec_brPlaces.f (k + 1) a0 a1 a2) := by
  intro a0 a1 a2 k
  have ih0 := spec_brPlaces.mono_l k
  exact ih0 a0 a1 a2
set_option maxHeartbeats 8000000 in
set_option maxRecDepth 100000 in
theorem spec_brPlaces.calls (k : Nat) : ∀ (a0 : ByteArray) (a1 : ByteArray) (a2 : Bool) (r : List ByteArray) (w : World) (h : spec_brPlaces.f k a0 a1 a2 = some r),
    Calls Try.prog 69 #[.string a0, .string a1, .bool a2] w fun e w' => ∃ v0_ : Value, e = .returned (v0_) ∧ Kd.R Kd.string 9 w' w.heap.size (fun _ => True) v0_ r ∧ Below w.heap.size w w' := by
  induction k using Nat.strongRecOn with
  | _ k ih =>
  intro a0 a1 a2 r w h
  cases k with
  | zero => exact absurd h (by simp [spec_brPlaces.f])
  | succ k =>
  simp only [spec_brPlaces.f] at h
  have HB := Aside0.mk (Below.refl w.heap.size w)
  have H : ((spec_trLeaf.f a0).bind fun t126 => (if t126 = true then (some ([] : List ByteArray)) else ((spec_brRotate.f k a0 a2).bind fun bt127 => (if bt127.2 = true then (if ([] : List ByteArray).length < 8796093022208 then ((some (([] : List ByteArray) ++ [a1] : List ByteArray)).bind fun y129 => ((spec_trSides.f k a0).bind fun bt132 => (if a1.size + 1 ≤ 9223372036854775807 then ((spec_brPlaces.f k bt132.1 (a1 ++ (⟨#[48]⟩ : ByteArray)) a2).bind fun t134 => (if y129.length + t134.length < 8796093022208 then ((some (y129 ++ t134 : List ByteArray)).bind fun y137 => ((spec_brPlaces.f k bt132.2 (a1 ++ (⟨#[49]⟩ : ByteArray)) a2).bind fun t140 => (if y137.length + t140.length < 8796093022208 then (some (y137 ++ t140)) else (none)))) else (none))) else (none)))) else (none)) else ((spec_trSides.f k a0).bind fun bt146 => (if a1.size + 1 ≤ 9223372036854775807 then ((spec_brPlaces.f k bt146.1 (a1 ++ (⟨#[48]⟩ : ByteArray)) a2).bind fun t148 => (if ([] : List ByteArray).length + t148.length < 8796093022208 then ((some (([] : List ByteArray) ++ t148 : List ByteArray)).bind fun y151 => ((spec_brPlaces.f k bt146.2 (a1 ++ (⟨#[49]⟩ : ByteArray)) a2).bind fun t154 => (if y151.length + t154.length < 8796093022208 then (some (y151 ++ t154)) else (none)))) else (none))) else (none))))))) = some r := h
  clear h
  replace H := Option.bind_eq_some_iff.mp H
  obtain ⟨t126, A40, H⟩ := H
  replace H : (if t126 = true then (some ([] : List ByteArray)) else ((spec_brRotate.f k a0 a2).bind fun bt127 => (if bt127.2 = true then (if ([] : List ByteArray).length < 8796093022208 then ((some (([] : List ByteArray) ++ [a1] : List ByteArray)).bind fun y129 => ((spec_trSides.f k a0).bind fun bt132 => (if a1.size + 1 ≤ 9223372036854775807 then ((spec_brPlaces.f k bt132.1 (a1 ++ (⟨#[48]⟩ : ByteArray)) a2).bind fun t134 => (if y129.length + t134.length < 8796093022208 then ((some (y129 ++ t134 : List ByteArray)).bind fun y137 => ((spec_brPlaces.f k bt132.2 (a1 ++ (⟨#[49]⟩ : ByteArray)) a2).bind fun t140 => (if y137.length + t140.length < 8796093022208 then (some (y137 ++ t140)) else (none)))) else (none))) else (none)))) else (none)) else ((spec_trSides.f k a0).bind fun bt146 => (if a1.size + 1 ≤ 9223372036854775807 then ((spec_brPlaces.f k bt146.1 (a1 ++ (⟨#[48]⟩ : ByteArray)) a2).bind fun t148 => (if ([] : List ByteArray).length + t148.length < 8796093022208 then ((some (([] : List ByteArray) ++ t148 : List ByteArray)).bind fun y151 => ((spec_brPlaces.f k bt146.2 (a1 ++ (⟨#[49]⟩ : ByteArray)) a2).bind fun t154 => (if y151.length + t154.length < 8796093022208 then (some (y151 ++ t154)) else (none)))) else (none))) else (none)))))) = some r := H
  have A4 := Aside0.mk A40
  clear A40
  by_cases c5 : t126 = true
  · subst c5
    have H1 : (some ([] : List ByteArray)) = some r := by rw [if_pos rfl] at H; exact H
    clear H
    have H := H1
    clear H1
    obtain rfl := Option.some.inj H
    go_enter Try.func69, Try.ntmps69
    go_wp2_with (first | ((with_reducible refine gate_callee (f := 90) rfl ?_); refine goesL_ (some 13) rfl rfl Try.func90 (by kernel_rfl) rfl #[.string a0] rfl (by (try simp only [List.map_toArray, List.map_cons, List.map_nil]); first | done | rfl | (simp only [List.length_drop, List.length_take]; rfl)) ?_; (with_reducible refine (spec_trLeaf.calls a0 true _ A4.out).mono ?_); rintro e w' ⟨rfl, ⟨nd, rfl⟩⟩; refine ⟨_, rfl, ?_⟩))
    go_ret
    exact ⟨_, by first | rfl | (simp [errW_none, errW_some] <;> rfl) | (simp [*, errW_none, errW_some] <;> rfl), by first | exact Kd.R_nil _ _ _ _ _ | exact Kd.N_nil _ _ _ _ _ | exact Kd.V_nil _ _ _ _ _ | exact Kd.Q_nil _ _ _ _ _ | exact Kd.S_nil _ _ _ _ _, by repeat (first | (with_reducible first | exact HB.out | apply below_alloc | apply pw_below_drewN | apply below_drew1) | exact HB.out)⟩
  · replace c5 := Bool.eq_false_iff.mpr c5
    subst c5
    have H1 : ((spec_brRotate.f k a0 a2).bind fun bt127 => (if bt127.2 = true then (if ([] : List ByteArray).length < 8796093022208 then ((some (([] : List ByteArray) ++ [a1] : List ByteArray)).bind fun y129 => ((spec_trSides.f k a0).bind fun bt132 => (if a1.size + 1 ≤ 9223372036854775807 then ((spec_brPlaces.f k bt132.1 (a1 ++ (⟨#[48]⟩ : ByteArray)) a2).bind fun t134 => (if y129.length + t134.length < 8796093022208 then ((some (y129 ++ t134 : List ByteArray)).bind fun y137 => ((spec_brPlaces.f k bt132.2 (a1 ++ (⟨#[49]⟩ : ByteArray)) a2).bind fun t140 => (if y137.length + t140.length < 8796093022208 then (some (y137 ++ t140)) else (none)))) else (none))) else (none)))) else (none)) else ((spec_trSides.f k a0).bind fun bt146 => (if a1.size + 1 ≤ 9223372036854775807 then ((spec_brPlaces.f k bt146.1 (a1 ++ (⟨#[48]⟩ : ByteArray)) a2).bind fun t148 => (if ([] : List ByteArray).length + t148.length < 8796093022208 then ((some (([] : List ByteArray) ++ t148 : List ByteArray)).bind fun y151 => ((spec_brPlaces.f k bt146.2 (a1 ++ (⟨#[49]⟩ : ByteArray)) a2).bind fun t154 => (if y151.length + t154.length < 8796093022208 then (some (y151 ++ t154)) else (none)))) else (none))) else (none))))) = some r := by rw [if_neg (show ¬ (false = true) by decide)] at H; exact H
    clear H
    have H := H1
    clear H1
    replace H := Option.bind_eq_some_iff.mp H
    obtain ⟨⟨t127, t128⟩, A60, H⟩ := H
    replace H : (if t128 = true then (if ([] : List ByteArray).length < 8796093022208 then ((some (([] : List ByteArray) ++ [a1] : List ByteArray)).bind fun y129 => ((spec_trSides.f k a0).bind fun bt132 => (if a1.size + 1 ≤ 9223372036854775807 then ((spec_brPlaces.f k bt132.1 (a1 ++ (⟨#[48]⟩ : ByteArray)) a2).bind fun t134 => (if y129.length + t134.length < 8796093022208 then ((some (y129 ++ t134 : List ByteArray)).bind fun y137 => ((spec_brPlaces.f k bt132.2 (a1 ++ (⟨#[49]⟩ : ByteArray)) a2).bind fun t140 => (if y137.length + t140.length < 8796093022208 then (some (y137 ++ t140)) else (none)))) else (none))) else (none)))) else (none)) else ((spec_trSides.f k a0).bind fun bt146 => (if a1.size + 1 ≤ 9223372036854775807 then ((spec_brPlaces.f k bt146.1 (a1 ++ (⟨#[48]⟩ : ByteArray)) a2).bind fun t148 => (if ([] : List ByteArray).length + t148.length < 8796093022208 then ((some (([] : List ByteArray) ++ t148 : List ByteArray)).bind fun y151 => ((spec_brPlaces.f k bt146.2 (a1 ++ (⟨#[49]⟩ : ByteArray)) a2).bind fun t154 => (if y151.length + t154.length < 8796093022208 then (some (y151 ++ t154)) else (none)))) else (none))) else (none)))) = some r := H
    have A6 := Aside0.mk A60
    clear A60
    by_cases c7 : t128 = true
    · subst c7
      have H1 : (if ([] : List ByteArray).length < 8796093022208 then ((some (([] : List ByteArray) ++ [a1] : List ByteArray)).bind fun y129 => ((spec_trSides.f k a0).bind fun bt132 => (if a1.size + 1 ≤ 9223372036854775807 then ((spec_brPlaces.f k bt132.1 (a1 ++ (⟨#[48]⟩ : ByteArray)) a2).bind fun t134 => (if y129.length + t134.length < 8796093022208 then ((some (y129 ++ t134 : List ByteArray)).bind fun y137 => ((spec_brPlaces.f k bt132.2 (a1 ++ (⟨#[49]⟩ : ByteArray)) a2).bind fun t140 => (if y137.length + t140.length < 8796093022208 then (some (y137 ++ t140)) else (none)))) else (none))) else (none)))) else (none)) = some r := by rw [if_pos rfl] at H; exact H
      clear H
      have H := H1
      clear H1
      by_cases c8 : ([] : List ByteArray).length < 8796093022208
      · rw [if_pos c8] at H
        have LMc8 := Aside0.mk c8
        clear c8
        obtain ⟨y129, hy129⟩ : ∃ y_ : List ByteArray, y_ = (([] : List ByteArray) ++ [a1]) := ⟨_, rfl⟩
        replace H : ((spec_trSides.f k a0).bind fun bt132 => (if a1.size + 1 ≤ 9223372036854775807 then ((spec_brPlaces.f k bt132.1 (a1 ++ (⟨#[48]⟩ : ByteArray)) a2).bind fun t134 => (if y129.length + t134.length < 8796093022208 then ((some (y129 ++ t134 : List ByteArray)).bind fun y137 => ((spec_brPlaces.f k bt132.2 (a1 ++ (⟨#[49]⟩ : ByteArray)) a2).bind fun t140 => (if y137.length + t140.length < 8796093022208 then (some (y137 ++ t140)) else (none)))) else (none))) else (none))) = some r := by first | (rw [hy129]; with_reducible exact H) | (have H2_ := (Option.bind_some _ _).symm.trans H; rw [hy129]; with_reducible exact H2_) | (have H2_ := (Option.bind_some _ _).symm.trans H; with_reducible exact H2_) | with_reducible exact H | (rw [hy129]; exact H) | exact H
        have Ny129 := Aside0.mk hy129
        clear hy129
        replace H := Option.bind_eq_some_iff.mp H
        obtain ⟨⟨t132, t133⟩, A90, H⟩ := H
        replace H : (if a1.size + 1 ≤ 9223372036854775807 then ((spec_brPlaces.f k t132 (a1 ++ (⟨#[48]⟩ : ByteArray)) a2).bind fun t134 => (if y129.length + t134.length < 8796093022208 then ((some (y129 ++ t134 : List ByteArray)).bind fun y137 => ((spec_brPlaces.f k t133 (a1 ++ (⟨#[49]⟩ : ByteArray)) a2).bind fun t140 => (if y137.length + t140.length < 8796093022208 then (some (y137 ++ t140)) else (none)))) else (none))) else (none)) = some r := H
        have A9 := Aside0.mk A90
        clear A90
        by_cases c10 : a1.size + 1 ≤ 9223372036854775807
        · rw [if_pos c10] at H
          have c10b0 := eq_true c10
          have c10b1 : decide (a1.size + 1 ≤ 9223372036854775807) = true := decide_eq_true c10
          try have c10b2 : (9223372036854775807 < a1.size + 1) = False := eq_false (Nat.not_lt.2 c10)
          replace H := Option.bind_eq_some_iff.mp H
          obtain ⟨t134, A110, H⟩ := H
          replace H : (if y129.length + t134.length < 8796093022208 then ((some (y129 ++ t134 : List ByteArray)).bind fun y137 => ((spec_brPlaces.f k t133 (a1 ++ (⟨#[49]⟩ : ByteArray)) a2).bind fun t140 => (if y137.length + t140.length < 8796093022208 then (some (y137 ++ t140)) else (none)))) else (none)) = some r := H
          have A11 := Aside0.mk A110
          clear A110
          by_cases c12 : y129.length + t134.length < 8796093022208
          · rw [if_pos c12] at H
            have LMc12 := Aside0.mk c12
            clear c12
            obtain ⟨y137, hy137⟩ : ∃ y_ : List ByteArray, y_ = (y129 ++ t134) := ⟨_, rfl⟩
            replace H : ((spec_brPlaces.f k t133 (a1 ++ (⟨#[49]⟩ : ByteArray)) a2).bind fun t140 => (if y137.length + t140.length < 8796093022208 then (some (y137 ++ t140)) else (none))) = some r := by first | (rw [hy137]; with_reducible exact H) | (have H2_ := (Option.bind_some _ _).symm.trans H; rw [hy137]; with_reducible exact H2_) | (have H2_ := (Option.bind_some _ _).symm.trans H; with_reducible exact H2_) | with_reducible exact H | (rw [hy137]; exact H) | exact H
            have Ny137 := Aside0.mk hy137
            clear hy137
            replace H := Option.bind_eq_some_iff.mp H
            obtain ⟨t140, A130, H⟩ := H
            replace H : (if y137.length + t140.length < 8796093022208 then (some (y137 ++ t140)) else (none)) = some r := H
            have A13 := Aside0.mk A130
            clear A130
            by_cases c14 : y137.length + t140.length < 8796093022208
            · rw [if_pos c14] at H
              have LMc14 := Aside0.mk c14
              clear c14
              obtain ⟨y143, hy143⟩ : ∃ y_ : List ByteArray, y_ = (y137 ++ t140) := ⟨_, rfl⟩
              replace H : (some y143) = some r := by first | (rw [hy143]; with_reducible exact H) | (have H2_ := (Option.bind_some _ _).symm.trans H; rw [hy143]; with_reducible exact H2_) | (have H2_ := (Option.bind_some _ _).symm.trans H; with_reducible exact H2_) | with_reducible exact H | (rw [hy143]; exact H) | exact H
              have Ny143 := Aside0.mk hy143
              clear hy143
              obtain rfl := Option.some.inj H
              go_enter Try.func69, Try.ntmps69
              go_wp2_with (first | ((with_reducible refine gate_callee (f := 90) rfl ?_); refine goesL_ (some 13) rfl rfl Try.func90 (by kernel_rfl) rfl #[.string a0] rfl (by (try simp only [List.map_toArray, List.map_cons, List.map_nil]); first | done | rfl | (simp only [List.length_drop, List.length_take]; rfl)) ?_; (with_reducible refine (spec_trLeaf.calls a0 false _ A4.out).mono ?_); rintro e w' ⟨rfl, ⟨nd, rfl⟩⟩; refine ⟨_, rfl, ?_⟩) | ((with_reducible refine gate_callee (f := 91) rfl ?_); refine goesL_ (some 17) rfl rfl Try.func91 (by kernel_rfl) rfl #[.string a0, .bool a2] rfl (by (try simp only [List.map_toArray, List.map_cons, List.map_nil]); first | done | rfl | (simp only [List.length_drop, List.length_take]; rfl)) ?_; (with_reducible refine (spec_brRotate.calls k a0 a2 t127 true _ A6.out).mono ?_); rintro e w' ⟨rfl, ⟨nd, rfl⟩⟩; refine ⟨_, rfl, ?_⟩) | ((with_reducible refine gate_builtin (b := .append) (xs := #[.tmp 21, .tmp 23]) rfl ?_); at_builtin; refine Kd.R_append Kd.string (w0 := w) w.heap.size rfl (.tmp 21) (.tmp 23) 70 9 (.string ⟨#[]⟩) 16 rfl Try.underlying70 info9 rfl (by decide) (by omega) (.slice none 0 0) ([] : List ByteArray) a1 [.string a1] (fun _ => True) (fun _ => False) rfl rfl ?aP (fun _ hk => hk.elim) ?aF ?aO ?aB ?aS ?aL ?_; (case aP => exact rfl); (case aB => exact (by repeat (first | (with_reducible first | exact HB.out | apply below_alloc | apply pw_below_drewN | apply below_drew1) | exact HB.out))); (case aF => exact (fun _ _ => trivial)); (case aO => exact ((Kd.R_nil _ _ _ _ (fun _ => True)))); (case aS => exact (below_size (by repeat (first | (with_reducible first | exact HB.out | apply below_alloc | apply pw_below_drewN | apply below_drew1) | exact HB.out)))); (case aL => have := LMc8.out; omega); intro v130 w15 ho hb hg hat; rw [← Ny129.out] at ho; have n0_ := Aside0.mk (hb); have n1_ := Aside0.mk (ho); clear HB; have HB := n0_; have HO131 := n1_; clear n0_ n1_; clear ho hb hg hat) | ((with_reducible refine gate_callee (f := 92) rfl ?_); refine goesL_ (some 27) rfl rfl Try.func92 (by kernel_rfl) rfl #[.string a0] rfl (by (try simp only [List.map_toArray, List.map_cons, List.map_nil]); first | done | rfl | (simp only [List.length_drop, List.length_take]; rfl)) ?_; (with_reducible refine (spec_trSides.calls k a0 t132 t133 _ A9.out).mono ?_); rintro e w' ⟨rfl, ⟨nd, rfl⟩⟩; refine ⟨_, rfl, ?_⟩) | ((with_reducible refine gate_callee (f := 69) rfl ?_); refine goesL_ (some 35) rfl rfl Try.func69 (by kernel_rfl) rfl #[.string t132, .string (a1 ++ (⟨#[48]⟩ : ByteArray)), .bool a2] rfl (by (try simp only [List.map_toArray, List.map_cons, List.map_nil]); first | done | rfl | (simp only [List.length_drop, List.length_take]; rfl)) ?_; (with_reducible refine (ih k (by omega) t132 (a1 ++ (⟨#[48]⟩ : ByteArray)) a2 t134 _ A11.out).mono ?_); rintro e w16 ⟨v135, rfl, ho0, hb⟩; refine ⟨_, rfl, ?_⟩; have n0_ := Aside0.mk (Kd.R_elder' (by (with_reducible repeat (first | apply Kd.R_alloc | apply Kd.R_drewN | apply Kd.R_drew)); exact HO131.out) (Kd.R_base ho0) hb); have n1_ := Aside0.mk (Kd.R_lower (Kd.R_new' ho0 (Kd.R_lt (by (with_reducible repeat (first | apply Kd.R_alloc | apply Kd.R_drewN | apply Kd.R_drew)); exact HO131.out))) (below_size (by repeat (first | (with_reducible first | exact HB.out | apply below_alloc | apply pw_below_drewN | apply below_drew1) | exact HB.out)))); have n2_ := Aside0.mk (below_step (by repeat (first | (with_reducible first | exact HB.out | apply below_alloc | apply pw_below_drewN | apply below_drew1) | exact HB.out)) hb); clear HO131; clear HB; have HO131 := n0_; have HO136 := n1_; have HB := n2_; clear n0_ n1_ n2_; (try clear hb); (try clear hb2); (try clear hk); (try clear hi); (try clear ho0); obtain ⟨Ao18, co18, eo18⟩ := Kd.R_slice HO136.out; subst eo18) | ((with_reducible refine gate_builtin (b := .append) (xs := #[.tmp 30, .tmp 35]) rfl ?_); at_builtin; refine Kd.R_append_rows Kd.string (w0 := w) w.heap.size rfl (.tmp 30) (.tmp 35) 70 9 (.string ⟨#[]⟩) 16 rfl Try.underlying70 info9 rfl (by decide) (by omega) v130 y129 t134 _ _ _ (fun k_ => some k_ ≠ (.slice Ao18 t134.length co18 : Value).ownBlock) (fun _ => False) rfl rfl ?aO ?aR (fun _ _ h => h) (fun _ h => h.elim) ?aF ?aB ?aS ?aL ?_; (case aR => repeat (first | exact (Kd.R_reads' HO136.out).2.2 | (with_reducible refine Kd.C_alloc ?_ _) | (with_reducible refine Kd.C_drewN ?_ _) | (with_reducible refine Kd.C_drew ?_))); (case aB => exact (by repeat (first | (with_reducible first | exact HB.out | apply below_alloc | apply pw_below_drewN | apply below_drew1) | exact HB.out))); (case aF => exact (fun k_ hk => Kd.fresh' (Kd.R_lt (by (with_reducible repeat (first | apply Kd.R_alloc | apply Kd.R_drewN | apply Kd.R_drew)); exact HO136.out)) k_ hk)); (case aO => exact (by (with_reducible repeat (first | apply Kd.R_alloc | apply Kd.R_drewN | apply Kd.R_drew)); exact Kd.R_mono HO131.out (fun _ hk => hk.2))); (case aS => exact (below_size (by repeat (first | (with_reducible first | exact HB.out | apply below_alloc | apply pw_below_drewN | apply below_drew1) | exact HB.out)))); (case aL => have := LMc12.out; omega); intro v138 w17 ho hb hg hat; rw [← Ny137.out] at ho; have n0_ := Aside0.mk (Kd.R_after (ok := (fun _ => True)) (by (with_reducible repeat (first | apply Kd.R_alloc | apply Kd.R_drewN | apply Kd.R_drew)); exact HO136.out) hg hat); have n1_ := Aside0.mk (hb); have n2_ := Aside0.mk (ho); clear HO136; clear HB; clear HO131; have HO136 := n0_; have HB := n1_; have HO139 := n2_; clear n0_ n1_ n2_; clear ho hb hg hat) | ((with_reducible refine gate_callee (f := 69) rfl ?_); refine goesL_ (some 42) rfl rfl Try.func69 (by kernel_rfl) rfl #[.string t133, .string (a1 ++ (⟨#[49]⟩ : ByteArray)), .bool a2] rfl (by (try simp only [List.map_toArray, List.map_cons, List.map_nil]); first | done | rfl | (simp only [List.length_drop, List.length_take]; rfl)) ?_; (with_reducible refine (ih k (by omega) t133 (a1 ++ (⟨#[49]⟩ : ByteArray)) a2 t140 _ A13.out).mono ?_); rintro e w19 ⟨v141, rfl, ho0, hb⟩; refine ⟨_, rfl, ?_⟩; have n0_ := Aside0.mk (Kd.R_elder' (by (with_reducible repeat (first | apply Kd.R_alloc | apply Kd.R_drewN | apply Kd.R_drew)); exact HO136.out) (Kd.R_base ho0) hb); have n1_ := Aside0.mk (Kd.R_elder' (by (with_reducible repeat (first | apply Kd.R_alloc | apply Kd.R_drewN | apply Kd.R_drew)); exact HO139.out) (Kd.R_base ho0) hb); have n2_ := Aside0.mk (Kd.R_lower (Kd.R_new' (Kd.R_new' ho0 (Kd.R_lt (by (with_reducible repeat (first | apply Kd.R_alloc | apply Kd.R_drewN | apply Kd.R_drew)); exact HO136.out))) (Kd.R_lt (by (with_reducible repeat (first | apply Kd.R_alloc | apply Kd.R_drewN | apply Kd.R_drew)); exact HO139.out))) (below_size (by repeat (first | (with_reducible first | exact HB.out | apply below_alloc | apply pw_below_drewN | apply below_drew1) | exact HB.out)))); have n3_ := Aside0.mk (below_step (by repeat (first | (with_reducible first | exact HB.out | apply below_alloc | apply pw_below_drewN | apply below_drew1) | exact HB.out)) hb); clear HO136; clear HO139; clear HB; have HO136 := n0_; have HO139 := n1_; have HO142 := n2_; have HB := n3_; clear n0_ n1_ n2_ n3_; (try clear hb); (try clear hb2); (try clear hk); (try clear hi); (try clear ho0); obtain ⟨Ao21, co21, eo21⟩ := Kd.R_slice HO142.out; subst eo21) | ((with_reducible refine gate_builtin (b := .append) (xs := #[.tmp 37, .tmp 42]) rfl ?_); at_builtin; refine Kd.R_append_rows Kd.string (w0 := w) w.heap.size rfl (.tmp 37) (.tmp 42) 70 9 (.string ⟨#[]⟩) 16 rfl Try.underlying70 info9 rfl (by decide) (by omega) v138 y137 t140 _ _ _ (fun k_ => some k_ ≠ (.slice Ao18 t134.length co18 : Value).ownBlock ∧ some k_ ≠ (.slice Ao21 t140.length co21 : Value).ownBlock) (fun _ => False) rfl rfl ?aO ?aR (fun _ _ h => h) (fun _ h => h.elim) ?aF ?aB ?aS ?aL ?_; (case aR => repeat (first | exact (Kd.R_reads' HO142.out).2.2 | (with_reducible refine Kd.C_alloc ?_ _) | (with_reducible refine Kd.C_drewN ?_ _) | (with_reducible refine Kd.C_drew ?_))); (case aB => exact (by repeat (first | (with_reducible first | exact HB.out | apply below_alloc | apply pw_below_drewN | apply below_drew1) | exact HB.out))); (case aF => exact (fun k_ hk => ⟨Kd.fresh' (Kd.R_lt (by (with_reducible repeat (first | apply Kd.R_alloc | apply Kd.R_drewN | apply Kd.R_drew)); exact HO136.out)) k_ hk, Kd.fresh' (Kd.R_lt (by (with_reducible repeat (first | apply Kd.R_alloc | apply Kd.R_drewN | apply Kd.R_drew)); exact HO142.out)) k_ hk⟩)); (case aO => exact (by (with_reducible repeat (first | apply Kd.R_alloc | apply Kd.R_drewN | apply Kd.R_drew)); exact HO139.out)); (case aS => exact (below_size (by repeat (first | (with_reducible first | exact HB.out | apply below_alloc | apply pw_below_drewN | apply below_drew1) | exact HB.out)))); (case aL => have := LMc14.out; omega); intro v144 w20 ho hb hg hat; rw [← Ny143.out] at ho; have n0_ := Aside0.mk (Kd.R_after (ok := (fun k_ => some k_ ≠ (.slice Ao21 t140.length co21 : Value).ownBlock)) (by (with_reducible repeat (first | apply Kd.R_alloc | apply Kd.R_drewN | apply Kd.R_drew)); exact Kd.R_mono HO136.out (fun _ hk => ⟨hk.2, hk.1.2⟩)) hg hat); have n1_ := Aside0.mk (Kd.R_after (ok := (fun k_ => some k_ ≠ (.slice Ao18 t134.length co18 : Value).ownBlock)) (by (with_reducible repeat (first | apply Kd.R_alloc | apply Kd.R_drewN | apply Kd.R_drew)); exact Kd.R_mono HO142.out (fun _ hk => ⟨hk.1.2, hk.2⟩)) hg hat); have n2_ := Aside0.mk (hb); have n3_ := Aside0.mk (ho); clear HO136; clear HO142; clear HB; clear HO139; have HO136 := n0_; have HO142 := n1_; have HB := n2_; have HO145 := n3_; clear n0_ n1_ n2_ n3_; clear ho hb hg hat))
              go_ret
              exact ⟨_, by first | rfl | (simp [errW_none, errW_some] <;> rfl) | (simp [*, errW_none, errW_some] <;> rfl), by (with_reducible repeat (first | apply Kd.R_alloc | apply Kd.R_drewN | apply Kd.R_drew)); exact Kd.R_mono HO145.out (fun _ hk => trivial), by repeat (first | (with_reducible first | exact HB.out | apply below_alloc | apply pw_below_drewN | apply below_drew1) | exact HB.out)⟩
            · rw [if_neg c14] at H
              exact absurd H (by simp)
          · rw [if_neg c12] at H
            exact absurd H (by simp)
        · rw [if_neg c10] at H
          exact absurd H (by simp)
      · rw [if_neg c8] at H
        exact absurd H (by simp)
    · replace c7 := Bool.eq_false_iff.mpr c7
      subst c7
      have H1 : ((spec_trSides.f k a0).bind fun bt146 => (if a1.size + 1 ≤ 9223372036854775807 then ((spec_brPlaces.f k bt146.1 (a1 ++ (⟨#[48]⟩ : ByteArray)) a2).bind fun t148 => (if ([] : List ByteArray).length + t148.length < 8796093022208 then ((some (([] : List ByteArray) ++ t148 : List ByteArray)).bind fun y151 => ((spec_brPlaces.f k bt146.2 (a1 ++ (⟨#[49]⟩ : ByteArray)) a2).bind fun t154 => (if y151.length + t154.length < 8796093022208 then (some (y151 ++ t154)) else (none)))) else (none))) else (none))) = some r := by rw [if_neg (show ¬ (false = true) by decide)] at H; exact H
      clear H
      have H := H1
      clear H1
      replace H := Option.bind_eq_some_iff.mp H
      obtain ⟨⟨t146, t147⟩, A220, H⟩ := H
      replace H : (if a1.size + 1 ≤ 9223372036854775807 then ((spec_brPlaces.f k t146 (a1 ++ (⟨#[48]⟩ : ByteArray)) a2).bind fun t148 => (if ([] : List ByteArray).length + t148.length < 8796093022208 then ((some (([] : List ByteArray) ++ t148 : List ByteArray)).bind fun y151 => ((spec_brPlaces.f k t147 (a1 ++ (⟨#[49]⟩ : ByteArray)) a2).bind fun t154 => (if y151.length + t154.length < 8796093022208 then (some (y151 ++ t154)) else (none)))) else (none))) else (none)) = some r := H
      have A22 := Aside0.mk A220
      clear A220
      by_cases c23 : a1.size + 1 ≤ 9223372036854775807
      · rw [if_pos c23] at H
        have c23b0 := eq_true c23
        have c23b1 : decide (a1.size + 1 ≤ 9223372036854775807) = true := decide_eq_true c23
        try have c23b2 : (9223372036854775807 < a1.size + 1) = False := eq_false (Nat.not_lt.2 c23)
        replace H := Option.bind_eq_some_iff.mp H
        obtain ⟨t148, A240, H⟩ := H
        replace H : (if ([] : List ByteArray).length + t148.length < 8796093022208 then ((some (([] : List ByteArray) ++ t148 : List ByteArray)).bind fun y151 => ((spec_brPlaces.f k t147 (a1 ++ (⟨#[49]⟩ : ByteArray)) a2).bind fun t154 => (if y151.length + t154.length < 8796093022208 then (some (y151 ++ t154)) else (none)))) else (none)) = some r := H
        have A24 := Aside0.mk A240
        clear A240
        by_cases c25 : ([] : List ByteArray).length + t148.length < 8796093022208
        · rw [if_pos c25] at H
          have LMc25 := Aside0.mk c25
          clear c25
          obtain ⟨y151, hy151⟩ : ∃ y_ : List ByteArray, y_ = (([] : List ByteArray) ++ t148) := ⟨_, rfl⟩
          replace H : ((spec_brPlaces.f k t147 (a1 ++ (⟨#[49]⟩ : ByteArray)) a2).bind fun t154 => (if y151.length + t154.length < 8796093022208 then (some (y151 ++ t154)) else (none))) = some r := by first | (rw [hy151]; with_reducible exact H) | (have H2_ := (Option.bind_some _ _).symm.trans H; rw [hy151]; with_reducible exact H2_) | (have H2_ := (Option.bind_some _ _).symm.trans H; with_reducible exact H2_) | with_reducible exact H | (rw [hy151]; exact H) | exact H
          have Ny151 := Aside0.mk hy151
          clear hy151
          replace H := Option.bind_eq_some_iff.mp H
          obtain ⟨t154, A260, H⟩ := H
          replace H : (if y151.length + t154.length < 8796093022208 then (some (y151 ++ t154)) else (none)) = some r := H
          have A26 := Aside0.mk A260
          clear A260
          by_cases c27 : y151.length + t154.length < 8796093022208
          · rw [if_pos c27] at H
            have LMc27 := Aside0.mk c27
            clear c27
            obtain ⟨y157, hy157⟩ : ∃ y_ : List ByteArray, y_ = (y151 ++ t154) := ⟨_, rfl⟩
            replace H : (some y157) = some r := by first | (rw [hy157]; with_reducible exact H) | (have H2_ := (Option.bind_some _ _).symm.trans H; rw [hy157]; with_reducible exact H2_) | (have H2_ := (Option.bind_some _ _).symm.trans H; with_reducible exact H2_) | with_reducible exact H | (rw [hy157]; exact H) | exact H
            have Ny157 := Aside0.mk hy157
            clear hy157
            obtain rfl := Option.some.inj H
            go_enter Try.func69, Try.ntmps69
            go_wp2_with (first | ((with_reducible refine gate_callee (f := 90) rfl ?_); refine goesL_ (some 13) rfl rfl Try.func90 (by kernel_rfl) rfl #[.string a0] rfl (by (try simp only [List.map_toArray, List.map_cons, List.map_nil]); first | done | rfl | (simp only [List.length_drop, List.length_take]; rfl)) ?_; (with_reducible refine (spec_trLeaf.calls a0 false _ A4.out).mono ?_); rintro e w' ⟨rfl, ⟨nd, rfl⟩⟩; refine ⟨_, rfl, ?_⟩) | ((with_reducible refine gate_callee (f := 91) rfl ?_); refine goesL_ (some 17) rfl rfl Try.func91 (by kernel_rfl) rfl #[.string a0, .bool a2] rfl (by (try simp only [List.map_toArray, List.map_cons, List.map_nil]); first | done | rfl | (simp only [List.length_drop, List.length_take]; rfl)) ?_; (with_reducible refine (spec_brRotate.calls k a0 a2 t127 false _ A6.out).mono ?_); rintro e w' ⟨rfl, ⟨nd, rfl⟩⟩; refine ⟨_, rfl, ?_⟩) | ((with_reducible refine gate_callee (f := 92) rfl ?_); refine goesL_ (some 27) rfl rfl Try.func92 (by kernel_rfl) rfl #[.string a0] rfl (by (try simp only [List.map_toArray, List.map_cons, List.map_nil]); first | done | rfl | (simp only [List.length_drop, List.length_take]; rfl)) ?_; (with_reducible refine (spec_trSides.calls k a0 t146 t147 _ A22.out).mono ?_); rintro e w' ⟨rfl, ⟨nd, rfl⟩⟩; refine ⟨_, rfl, ?_⟩) | ((with_reducible refine gate_callee (f := 69) rfl ?_); refine goesL_ (some 35) rfl rfl Try.func69 (by kernel_rfl) rfl #[.string t146, .string (a1 ++ (⟨#[48]⟩ : ByteArray)), .bool a2] rfl (by (try simp only [List.map_toArray, List.map_cons, List.map_nil]); first | done | rfl | (simp only [List.length_drop, List.length_take]; rfl)) ?_; (with_reducible refine (ih k (by omega) t146 (a1 ++ (⟨#[48]⟩ : ByteArray)) a2 t148 _ A24.out).mono ?_); rintro e w28 ⟨v149, rfl, ho0, hb⟩; refine ⟨_, rfl, ?_⟩; have n0_ := Aside0.mk (Kd.R_lower ho0 (below_size (by repeat (first | (with_reducible first | exact HB.out | apply below_alloc | apply pw_below_drewN | apply below_drew1) | exact HB.out)))); have n1_ := Aside0.mk (below_step (by repeat (first | (with_reducible first | exact HB.out | apply below_alloc | apply pw_below_drewN | apply below_drew1) | exact HB.out)) hb); clear HB; have HO150 := n0_; have HB := n1_; clear n0_ n1_; (try clear hb); (try clear hb2); (try clear hk); (try clear hi); (try clear ho0); obtain ⟨Ao30, co30, eo30⟩ := Kd.R_slice HO150.out; subst eo30) | ((with_reducible refine gate_builtin (b := .append) (xs := #[.tmp 30, .tmp 35]) rfl ?_); at_builtin; refine Kd.R_append_rows Kd.string (w0 := w) w.heap.size rfl (.tmp 30) (.tmp 35) 70 9 (.string ⟨#[]⟩) 16 rfl Try.underlying70 info9 rfl (by decide) (by omega) (.slice none 0 0) ([] : List ByteArray) t148 _ _ _ (fun k_ => some k_ ≠ (.slice Ao30 t148.length co30 : Value).ownBlock) (fun _ => False) rfl rfl ?aO ?aR (fun _ _ h => h) (fun _ h => h.elim) ?aF ?aB ?aS ?aL ?_; (case aR => repeat (first | exact (Kd.R_reads' HO150.out).2.2 | (with_reducible refine Kd.C_alloc ?_ _) | (with_reducible refine Kd.C_drewN ?_ _) | (with_reducible refine Kd.C_drew ?_))); (case aB => exact (by repeat (first | (with_reducible first | exact HB.out | apply below_alloc | apply pw_below_drewN | apply below_drew1) | exact HB.out))); (case aF => exact (fun k_ hk => Kd.fresh' (Kd.R_lt (by (with_reducible repeat (first | apply Kd.R_alloc | apply Kd.R_drewN | apply Kd.R_drew)); exact HO150.out)) k_ hk)); (case aO => exact ((Kd.R_nil _ _ _ _ (fun k_ => some k_ ≠ (.slice Ao30 t148.length co30 : Value).ownBlock)))); (case aS => exact (below_size (by repeat (first | (with_reducible first | exact HB.out | apply below_alloc | apply pw_below_drewN | apply below_drew1) | exact HB.out)))); (case aL => have := LMc25.out; omega); intro v152 w29 ho hb hg hat; rw [← Ny151.out] at ho; have n0_ := Aside0.mk (Kd.R_after (Kd.R_apart_nil (by (with_reducible repeat (first | apply Kd.R_alloc | apply Kd.R_drewN | apply Kd.R_drew)); exact HO150.out)) hg hat); have n1_ := Aside0.mk (hb); have n2_ := Aside0.mk (ho); clear HO150; clear HB; have HO150 := n0_; have HB := n1_; have HO153 := n2_; clear n0_ n1_ n2_; clear ho hb hg hat) | ((with_reducible refine gate_callee (f := 69) rfl ?_); refine goesL_ (some 42) rfl rfl Try.func69 (by kernel_rfl) rfl #[.string t147, .string (a1 ++ (⟨#[49]⟩ : ByteArray)), .bool a2] rfl (by (try simp only [List.map_toArray, List.map_cons, List.map_nil]); first | done | rfl | (simp only [List.length_drop, List.length_take]; rfl)) ?_; (with_reducible refine (ih k (by omega) t147 (a1 ++ (⟨#[49]⟩ : ByteArray)) a2 t154 _ A26.out).mono ?_); rintro e w31 ⟨v155, rfl, ho0, hb⟩; refine ⟨_, rfl, ?_⟩; have n0_ := Aside0.mk (Kd.R_elder' (by (with_reducible repeat (first | apply Kd.R_alloc | apply Kd.R_drewN | apply Kd.R_drew)); exact HO150.out) (Kd.R_base ho0) hb); have n1_ := Aside0.mk (Kd.R_elder' (by (with_reducible repeat (first | apply Kd.R_alloc | apply Kd.R_drewN | apply Kd.R_drew)); exact HO153.out) (Kd.R_base ho0) hb); have n2_ := Aside0.mk (Kd.R_lower (Kd.R_new' (Kd.R_new' ho0 (Kd.R_lt (by (with_reducible repeat (first | apply Kd.R_alloc | apply Kd.R_drewN | apply Kd.R_drew)); exact HO150.out))) (Kd.R_lt (by (with_reducible repeat (first | apply Kd.R_alloc | apply Kd.R_drewN | apply Kd.R_drew)); exact HO153.out))) (below_size (by repeat (first | (with_reducible first | exact HB.out | apply below_alloc | apply pw_below_drewN | apply below_drew1) | exact HB.out)))); have n3_ := Aside0.mk (below_step (by repeat (first | (with_reducible first | exact HB.out | apply below_alloc | apply pw_below_drewN | apply below_drew1) | exact HB.out)) hb); clear HO150; clear HO153; clear HB; have HO150 := n0_; have HO153 := n1_; have HO156 := n2_; have HB := n3_; clear n0_ n1_ n2_ n3_; (try clear hb); (try clear hb2); (try clear hk); (try clear hi); (try clear ho0); obtain ⟨Ao33, co33, eo33⟩ := Kd.R_slice HO156.out; subst eo33) | ((with_reducible refine gate_builtin (b := .append) (xs := #[.tmp 37, .tmp 42]) rfl ?_); at_builtin; refine Kd.R_append_rows Kd.string (w0 := w) w.heap.size rfl (.tmp 37) (.tmp 42) 70 9 (.string ⟨#[]⟩) 16 rfl Try.underlying70 info9 rfl (by decide) (by omega) v152 y151 t154 _ _ _ (fun k_ => some k_ ≠ (.slice Ao30 t148.length co30 : Value).ownBlock ∧ some k_ ≠ (.slice Ao33 t154.length co33 : Value).ownBlock) (fun _ => False) rfl rfl ?aO ?aR (fun _ _ h => h) (fun _ h => h.elim) ?aF ?aB ?aS ?aL ?_; (case aR => repeat (first | exact (Kd.R_reads' HO156.out).2.2 | (with_reducible refine Kd.C_alloc ?_ _) | (with_reducible refine Kd.C_drewN ?_ _) | (with_reducible refine Kd.C_drew ?_))); (case aB => exact (by repeat (first | (with_reducible first | exact HB.out | apply below_alloc | apply pw_below_drewN | apply below_drew1) | exact HB.out))); (case aF => exact (fun k_ hk => ⟨Kd.fresh' (Kd.R_lt (by (with_reducible repeat (first | apply Kd.R_alloc | apply Kd.R_drewN | apply Kd.R_drew)); exact HO150.out)) k_ hk, Kd.fresh' (Kd.R_lt (by (with_reducible repeat (first | apply Kd.R_alloc | apply Kd.R_drewN | apply Kd.R_drew)); exact HO156.out)) k_ hk⟩)); (case aO => exact (by (with_reducible repeat (first | apply Kd.R_alloc | apply Kd.R_drewN | apply Kd.R_drew)); exact HO153.out)); (case aS => exact (below_size (by repeat (first | (with_reducible first | exact HB.out | apply below_alloc | apply pw_below_drewN | apply below_drew1) | exact HB.out)))); (case aL => have := LMc27.out; omega); intro v158 w32 ho hb hg hat; rw [← Ny157.out] at ho; have n0_ := Aside0.mk (Kd.R_after (ok := (fun k_ => some k_ ≠ (.slice Ao33 t154.length co33 : Value).ownBlock)) (by (with_reducible repeat (first | apply Kd.R_alloc | apply Kd.R_drewN | apply Kd.R_drew)); exact Kd.R_mono HO150.out (fun _ hk => ⟨hk.2, hk.1.2⟩)) hg hat); have n1_ := Aside0.mk (Kd.R_after (ok := (fun k_ => some k_ ≠ (.slice Ao30 t148.length co30 : Value).ownBlock)) (by (with_reducible repeat (first | apply Kd.R_alloc | apply Kd.R_drewN | apply Kd.R_drew)); exact Kd.R_mono HO156.out (fun _ hk => ⟨hk.1.2, hk.2⟩)) hg hat); have n2_ := Aside0.mk (hb); have n3_ := Aside0.mk (ho); clear HO150; clear HO156; clear HB; clear HO153; have HO150 := n0_; have HO156 := n1_; have HB := n2_; have HO159 := n3_; clear n0_ n1_ n2_ n3_; clear ho hb hg hat))
            go_ret
            exact ⟨_, by first | rfl | (simp [errW_none, errW_some] <;> rfl) | (simp [*, errW_none, errW_some] <;> rfl), by (with_reducible repeat (first | apply Kd.R_alloc | apply Kd.R_drewN | apply Kd.R_drew)); exact Kd.R_mono HO159.out (fun _ hk => trivial), by repeat (first | (with_reducible first | exact HB.out | apply below_alloc | apply pw_below_drewN | apply below_drew1) | exact HB.out)⟩
          · rw [if_neg c27] at H
            exact absurd H (by simp)
        · rw [if_neg c25] at H
          exact absurd H (by simp)
      · rw [if_neg c23] at H
        exact absurd H (by simp)

/-! ### spec_brAt: function 70 -/
mutual
def spec_brAt.j0 : Nat → ByteArray → ByteArray → Bool → Bool → Option (ByteArray × Bool)
  | 0, _, _, _, _ => none
  | k + 1, x0, x1, x2, x32 => if x32 = true then (some ((⟨#[]⟩ : ByteArray), false)) else ((spec_trSides.f k x0).bind fun bt163 => (if 0 < (x1.size : Int) then (if (bt x1 0) = 48 then (if 1 ≤ (x1.size : Int) then ((spec_brAt.f k bt163.1 (x1.extract 1 x1.size) x2).bind fun bt165 => ((spec_trOf.f bt165.1 bt163.2).bind fun t167 => (some (t167, bt165.2)))) else (none)) else (if 1 ≤ (x1.size : Int) then ((spec_brAt.f k bt163.2 (x1.extract 1 x1.size) x2).bind fun bt168 => ((spec_trOf.f bt163.1 bt168.1).bind fun t170 => (some (t170, bt168.2)))) else (none))) else (none)))
def spec_brAt.f : Nat → ByteArray → ByteArray → Bool → Option (ByteArray × Bool)
  | 0, _, _, _ => none
  | k + 1, a0, a1, a2 => if a1.toList = ([] : List UInt8) then ((spec_brRotate.f k a0 a2).bind fun bt160 => (some (bt160.1, bt160.2))) else ((spec_trLeaf.f a0).bind fun t162 => (if t162 = true then (spec_brAt.j0 k a0 a1 a2 true) else (if 0 < (a1.size : Int) then (if (bt a1 0) = 48 then (spec_brAt.j0 k a0 a1 a2 false) else (spec_brAt.j0 k a0 a1 a2 ((bt a1 0) != 49))) else (none))))
end
theorem spec_brAt.mono_l : ∀ k, (∀ y0 y1 y2, LeO (spec_brAt.f k y0 y1 y2) (spec_brAt.f (k + 1) y0 y1 y2)) ∧ (∀ y0 y1 y2 y3, LeO (spec_brAt.j0 k y0 y1 y2 y3) (spec_brAt.j0 (k + 1) y0 y1 y2 y3))
  | 0 => ⟨fun _ _ _ r h => by simp [spec_brAt.f] at h, fun _ _ _ _ r h => by simp [spec_brAt.j0] at h⟩
  | k + 1 => by
    obtain ⟨ih0, ih1⟩ := spec_brAt.mono_l k
    refine ⟨?_, ?_⟩
    · intro y0 y1 y2
      unfold spec_brAt.f
      repeat' first
      | (with_reducible exact ih0 _ _ _)
      | (with_reducible exact ih1 _ _ _ _)
      | (with_reducible exact spec_brRotate.mono _ _ _)
      | (with_reducible exact spec_trSides.mono _ _)
      | (with_reducible exact LeO.refl _)
      | (with_reducible exact LeO.none _)
      | (with_reducible refine LeO.ite ?_ ?_)
      | (with_reducible refine LeO.bind ?_ (fun _ => ?_))
      | exact ih0 _ _ _
      | exact ih1 _ _ _ _
      | exact spec_brRotate.mono _ _ _
      | exact spec_trSides.mono _ _
      | exact LeO.none _
      | refine LeO.ite ?_ ?_
      | refine LeO.bind ?_ (fun _ => ?_)
    · intro y0 y1 y2 y3
      unfold spec_brAt.j0
      repeat' first
      | (with_reducible exact ih0 _ _ _)
      | (with_reducible exact ih1 _ _ _ _)
      | (with_reducible exact spec_brRotate.mono _ _ _)
      | (with_reducible exact spec_trSides.mono _ _)
      | (with_reducible exact LeO.refl _)
      | (with_reducible exact LeO.none _)
      | (with_reducible refine LeO.ite ?_ ?_)
      | (with_reducible refine LeO.bind ?_ (fun _ => ?_))
      | exact ih0 _ _ _
      | exact ih1 _ _ _ _
      | exact spec_brRotate.mono _ _ _
      | exact spec_trSides.mono _ _
      | exact LeO.none _
      | refine LeO.ite ?_ ?_
      | refine LeO.bind ?_ (fun _ => ?_)
theorem spec_brAt.mono : ∀ a0 a1 a2 k, LeO (spec_brAt.f k a0 a1 a2) (spec_brAt.f (k + 1) a0 a1 a2) := by
  intro a0 a1 a2 k
  obtain ⟨ih0, ih1⟩ := spec_brAt.mono_l k
  exact ih0 a0 a1 a2
set_option maxHeartbeats 8000000 in
set_option maxRecDepth 100000 in
theorem spec_brAt.calls (k : Nat) : ∀ (a0 : ByteArray) (a1 : ByteArray) (a2 : Bool) (r1 : ByteArray) (r2 : Bool) (w : World) (h : spec_brAt.f k a0 a1 a2 = some (r1, r2)),
    Calls Try.prog 70 #[.string a0, .string a1, .bool a2] w fun e w' => e = .returned (.tuple #[.string r1, .bool r2]) ∧ Drawn0 w w' := by
  induction k using Nat.strongRecOn with
  | _ k ih =>
  intro a0 a1 a2 r1 r2 w h
  cases k with
  | zero => exact absurd h (by simp [spec_brAt.f])
  | succ k =>
  simp only [spec_brAt.f] at h
  have H : (if a1.toList = ([] : List UInt8) then ((spec_brRotate.f k a0 a2).bind fun bt160 => (some (bt160.1, bt160.2))) else ((spec_trLeaf.f a0).bind fun t162 => (if t162 = true then (spec_brAt.j0 k a0 a1 a2 true) else (if 0 < (a1.size : Int) then (if (bt a1 0) = 48 then (spec_brAt.j0 k a0 a1 a2 false) else (spec_brAt.j0 k a0 a1 a2 ((bt a1 0) != 49))) else (none))))) = some (r1, r2) := h
  clear h
  by_cases c4 : a1.toList = ([] : List UInt8)
  · rw [if_pos c4] at H
    have c4b0 : (a1.toList == ([] : List UInt8)) = true := beq_iff_eq.mpr c4
    have c4b1 : (a1.toList != ([] : List UInt8)) = false := bne_eq_false_iff_eq.mpr c4
    clear c4
    replace H := Option.bind_eq_some_iff.mp H
    obtain ⟨⟨t160, t161⟩, A50, H⟩ := H
    replace H : (some (t160, t161)) = some (r1, r2) := H
    have A5 := Aside0.mk A50
    clear A50
    simp only [Option.some.injEq, Prod.mk.injEq] at H
    obtain ⟨rfl, rfl⟩ := H
    go_enter Try.func70, Try.ntmps70
    go_wp2_with (first | ((with_reducible refine gate_callee (f := 91) rfl ?_); refine goesL_ (some 18) rfl rfl Try.func91 (by kernel_rfl) rfl #[.string a0, .bool a2] rfl (by (try simp only [List.map_toArray, List.map_cons, List.map_nil]); first | done | rfl | (simp only [List.length_drop, List.length_take]; rfl)) ?_; (with_reducible refine (spec_brRotate.calls k a0 a2 t160 t161 _ A5.out).mono ?_); rintro e w' ⟨rfl, ⟨nd, rfl⟩⟩; refine ⟨_, rfl, ?_⟩))
    go_ret2
    exact ⟨by first | rfl | (simp; done) | (simp [*]; done), by repeat (first | exact Drawn0.refl _ | apply Drawn0.step)⟩
  · rw [if_neg c4] at H
    have c4b0 : (a1.toList == ([] : List UInt8)) = false := beq_eq_false_iff_ne.mpr c4
    have c4b1 : (a1.toList != ([] : List UInt8)) = true := bne_iff_ne.mpr c4
    have HC6 := Aside0.mk H
    clear H
    go_enter Try.func70, Try.ntmps70
    go_upto_region 3 with (fail)
    go_cut [32] (fun v32 wc => ∃ (kq : Nat) (x32_5 : Bool), v32 = .bool x32_5 ∧ Aside0 (spec_brAt.j0 kq a0 a1 a2 x32_5 = some (r1, r2)) ∧ Aside0 (kq ≤ k) ∧ Drawn0 w wc)
    case first =>
      have H := HC6.out
      clear HC6
      replace H := Option.bind_eq_some_iff.mp H
      obtain ⟨t162, A70, H⟩ := H
      replace H : (if t162 = true then (spec_brAt.j0 k a0 a1 a2 true) else (if 0 < (a1.size : Int) then (if (bt a1 0) = 48 then (spec_brAt.j0 k a0 a1 a2 false) else (spec_brAt.j0 k a0 a1 a2 ((bt a1 0) != 49))) else (none))) = some (r1, r2) := H
      have A7 := Aside0.mk A70
      clear A70
      by_cases c8 : t162 = true
      · subst c8
        have H1 : (spec_brAt.j0 k a0 a1 a2 true) = some (r1, r2) := by rw [if_pos rfl] at H; exact H
        clear H
        have H := H1
        clear H1
        have H' := Aside0.mk H
        clear H
        go_wp2_with (first | ((with_reducible refine gate_callee (f := 90) rfl ?_); refine goesL_ (some 22) rfl rfl Try.func90 (by kernel_rfl) rfl #[.string a0] rfl (by (try simp only [List.map_toArray, List.map_cons, List.map_nil]); first | done | rfl | (simp only [List.length_drop, List.length_take]; rfl)) ?_; (with_reducible refine (spec_trLeaf.calls a0 true _ A7.out).mono ?_); rintro e w' ⟨rfl, ⟨nd, rfl⟩⟩; refine ⟨_, rfl, ?_⟩))
        go_meet
        case rel => exact ⟨_, (true), (by first | rfl | (simp; done) | (simp [*]; done)), H', ⟨by first | omega | exact Nat.le_refl _⟩, by repeat (first | exact Drawn0.refl _ | apply Drawn0.step)⟩
      · replace c8 := Bool.eq_false_iff.mpr c8
        subst c8
        have H1 : (if 0 < (a1.size : Int) then (if (bt a1 0) = 48 then (spec_brAt.j0 k a0 a1 a2 false) else (spec_brAt.j0 k a0 a1 a2 ((bt a1 0) != 49))) else (none)) = some (r1, r2) := by rw [if_neg (show ¬ (false = true) by decide)] at H; exact H
        clear H
        have H := H1
        clear H1
        by_cases c9 : 0 < (a1.size : Int)
        · rw [if_pos c9] at H
          have c9b0 : decide (0 < (a1.size : Int)) = true := decide_eq_true c9
          have c9b1 : decide (0 < a1.size) = true := decide_eq_true (by omega)
          clear c9
          (first | rw [c9b0] | (simp only [i64_w, i32_w]; rw [c9b0]) | skip)
          by_cases c11 : (bt a1 0) = 48
          · rw [if_pos c11] at H
            have c11b0 : ((bt a1 0) == 48) = true := beq_iff_eq.mpr c11
            have c11b1 : ((bt a1 0) != 48) = false := bne_eq_false_iff_eq.mpr c11
            clear c11
            have H' := Aside0.mk H
            clear H
            go_wp2_with (first | ((with_reducible refine gate_callee (f := 90) rfl ?_); refine goesL_ (some 22) rfl rfl Try.func90 (by kernel_rfl) rfl #[.string a0] rfl (by (try simp only [List.map_toArray, List.map_cons, List.map_nil]); first | done | rfl | (simp only [List.length_drop, List.length_take]; rfl)) ?_; (with_reducible refine (spec_trLeaf.calls a0 false _ A7.out).mono ?_); rintro e w' ⟨rfl, ⟨nd, rfl⟩⟩; refine ⟨_, rfl, ?_⟩; have p10 : 0 ≤ (0 : Int) := (by omega); have q10 : 0 < a1.size := (by have : (0 : Int) < (a1.size : Int) := of_decide_eq_true (by first | (with_reducible assumption) | assumption); omega); have hx10 : ∀ h : 0 < a1.size, ((a1[0]'h).toNat : Int) = bt a1 0 := bt_at a1 0; clear p10; have qi10 : (0 < (a1.size : Int)) = True := eq_true (of_decide_eq_true (by first | (with_reducible assumption) | assumption)); replace q10 := eq_true q10))
            go_meet
            case rel => exact ⟨_, (false), (by first | rfl | (simp; done) | (simp [*]; done)), H', ⟨by first | omega | exact Nat.le_refl _⟩, by repeat (first | exact Drawn0.refl _ | apply Drawn0.step)⟩
          · rw [if_neg c11] at H
            have c11b0 : ((bt a1 0) == 48) = false := beq_eq_false_iff_ne.mpr c11
            have c11b1 : ((bt a1 0) != 48) = true := bne_iff_ne.mpr c11
            have H' := Aside0.mk H
            clear H
            go_wp2_with (first | ((with_reducible refine gate_callee (f := 90) rfl ?_); refine goesL_ (some 22) rfl rfl Try.func90 (by kernel_rfl) rfl #[.string a0] rfl (by (try simp only [List.map_toArray, List.map_cons, List.map_nil]); first | done | rfl | (simp only [List.length_drop, List.length_take]; rfl)) ?_; (with_reducible refine (spec_trLeaf.calls a0 false _ A7.out).mono ?_); rintro e w' ⟨rfl, ⟨nd, rfl⟩⟩; refine ⟨_, rfl, ?_⟩; have p10 : 0 ≤ (0 : Int) := (by omega); have q10 : 0 < a1.size := (by have : (0 : Int) < (a1.size : Int) := of_decide_eq_true (by first | (with_reducible assumption) | assumption); omega); have hx10 : ∀ h : 0 < a1.size, ((a1[0]'h).toNat : Int) = bt a1 0 := bt_at a1 0; clear p10; have qi10 : (0 < (a1.size : Int)) = True := eq_true (of_decide_eq_true (by first | (with_reducible assumption) | assumption)); replace q10 := eq_true q10; have p12 : 0 ≤ (0 : Int) := (by omega); have q12 : 0 < a1.size := (by have : (0 : Int) < (a1.size : Int) := of_decide_eq_true (by first | (with_reducible assumption) | assumption); omega); have hx12 : ∀ h : 0 < a1.size, ((a1[0]'h).toNat : Int) = bt a1 0 := bt_at a1 0; clear p12; have qi12 : (0 < (a1.size : Int)) = True := eq_true (of_decide_eq_true (by first | (with_reducible assumption) | assumption)); replace q12 := eq_true q12))
            go_meet
            case rel => exact ⟨_, (((bt a1 0) != 49)), (by first | rfl | (simp; done) | (simp [*]; done)), H', ⟨by first | omega | exact Nat.le_refl _⟩, by repeat (first | exact Drawn0.refl _ | apply Drawn0.step)⟩
        · rw [if_neg c9] at H
          exact absurd H (by simp)
    case rest =>
      clear HC6
      try clear c1
      try clear p1
      try clear q1
      try clear hx1
      try clear qi1
      try clear p2
      try clear c4
      try clear c4b0
      try clear c4b1
      try clear c7
      try clear c8
      try clear c9
      try clear c9b0
      try clear c9b1
      try clear p10
      try clear q10
      try clear hx10
      try clear qi10
      try clear c11
      try clear c11b0
      try clear c11b1
      try clear p12
      try clear q12
      try clear hx12
      try clear qi12
      try clear p10
      try clear p12
      try clear q10
      try clear q12
      obtain ⟨kq, x32_5, rfl, HA, HJ5, ⟨mc5, rfl⟩⟩ := hcut
      cases kq with
      | zero => exact absurd HA.out (by simp [spec_brAt.j0])
      | succ kj5 =>
        have H := HA.out
        clear HA
        simp only [spec_brAt.j0] at H
        by_cases c13 : x32_5 = true
        · subst c13
          have H1 : (some ((⟨#[]⟩ : ByteArray), false)) = some (r1, r2) := by rw [if_pos rfl] at H; exact H
          clear H
          have H := H1
          clear H1
          simp only [Option.some.injEq, Prod.mk.injEq] at H
          obtain ⟨rfl, rfl⟩ := H
          go_wp2
          go_ret2
          exact ⟨by first | rfl | (simp; done) | (simp [*]; done), by repeat (first | exact Drawn0.refl _ | apply Drawn0.step)⟩
        · replace c13 := Bool.eq_false_iff.mpr c13
          subst c13
          have H1 : ((spec_trSides.f kj5 a0).bind fun bt163 => (if 0 < (a1.size : Int) then (if (bt a1 0) = 48 then (if 1 ≤ (a1.size : Int) then ((spec_brAt.f kj5 bt163.1 (a1.extract 1 a1.size) a2).bind fun bt165 => ((spec_trOf.f bt165.1 bt163.2).bind fun t167 => (some (t167, bt165.2)))) else (none)) else (if 1 ≤ (a1.size : Int) then ((spec_brAt.f kj5 bt163.2 (a1.extract 1 a1.size) a2).bind fun bt168 => ((spec_trOf.f bt163.1 bt168.1).bind fun t170 => (some (t170, bt168.2)))) else (none))) else (none))) = some (r1, r2) := by rw [if_neg (show ¬ (false = true) by decide)] at H; exact H
          clear H
          have H := H1
          clear H1
          replace H := Option.bind_eq_some_iff.mp H
          obtain ⟨⟨t163, t164⟩, A140, H⟩ := H
          replace H : (if 0 < (a1.size : Int) then (if (bt a1 0) = 48 then (if 1 ≤ (a1.size : Int) then ((spec_brAt.f kj5 t163 (a1.extract 1 a1.size) a2).bind fun bt165 => ((spec_trOf.f bt165.1 t164).bind fun t167 => (some (t167, bt165.2)))) else (none)) else (if 1 ≤ (a1.size : Int) then ((spec_brAt.f kj5 t164 (a1.extract 1 a1.size) a2).bind fun bt168 => ((spec_trOf.f t163 bt168.1).bind fun t170 => (some (t170, bt168.2)))) else (none))) else (none)) = some (r1, r2) := H
          have A14 := Aside0.mk A140
          clear A140
          by_cases c15 : 0 < (a1.size : Int)
          · rw [if_pos c15] at H
            have c15b0 : decide (0 < (a1.size : Int)) = true := decide_eq_true c15
            have c15b1 : decide (0 < a1.size) = true := decide_eq_true (by omega)
            clear c15
            by_cases c17 : (bt a1 0) = 48
            · rw [if_pos c17] at H
              have c17b0 : ((bt a1 0) == 48) = true := beq_iff_eq.mpr c17
              have c17b1 : ((bt a1 0) != 48) = false := bne_eq_false_iff_eq.mpr c17
              clear c17
              by_cases c18 : 1 ≤ (a1.size : Int)
              · rw [if_pos c18] at H
                have c18b0 := eq_true c18
                have c18b1 : decide (1 ≤ (a1.size : Int)) = true := decide_eq_true c18
                clear c18
                replace H := Option.bind_eq_some_iff.mp H
                obtain ⟨⟨t165, t166⟩, A190, H⟩ := H
                replace H : ((spec_trOf.f t165 t164).bind fun t167 => (some (t167, t166))) = some (r1, r2) := H
                have A19 := Aside0.mk A190
                clear A190
                replace H := Option.bind_eq_some_iff.mp H
                obtain ⟨t167, A200, H⟩ := H
                replace H : (some (t167, t166)) = some (r1, r2) := H
                have A20 := Aside0.mk A200
                clear A200
                simp only [Option.some.injEq, Prod.mk.injEq] at H
                obtain ⟨rfl, rfl⟩ := H
                go_wp2_with (first | ((with_reducible refine gate_callee (f := 92) rfl ?_); refine goesL_ (some 35) rfl rfl Try.func92 (by kernel_rfl) rfl #[.string a0] rfl (by (try simp only [List.map_toArray, List.map_cons, List.map_nil]); first | done | rfl | (simp only [List.length_drop, List.length_take]; rfl)) ?_; (with_reducible refine (spec_trSides.calls kj5 a0 t163 t164 _ A14.out).mono ?_); rintro e w' ⟨rfl, ⟨nd, rfl⟩⟩; refine ⟨_, rfl, ?_⟩; have p16 : 0 ≤ (0 : Int) := (by omega); have q16 : 0 < a1.size := (by have : (0 : Int) < (a1.size : Int) := of_decide_eq_true (by first | (with_reducible assumption) | assumption); omega); have hx16 : ∀ h : 0 < a1.size, ((a1[0]'h).toNat : Int) = bt a1 0 := bt_at a1 0; clear p16; have qi16 : (0 < (a1.size : Int)) = True := eq_true (of_decide_eq_true (by first | (with_reducible assumption) | assumption)); replace q16 := eq_true q16) | ((with_reducible refine gate_callee (f := 70) rfl ?_); refine goesL_ (some 46) rfl rfl Try.func70 (by kernel_rfl) rfl #[.string t163, .string (a1.extract 1 a1.size), .bool a2] rfl (by (try simp only [List.map_toArray, List.map_cons, List.map_nil]); first | done | rfl | (simp only [List.length_drop, List.length_take]; rfl)) ?_; (with_reducible refine (ih kj5 (by have := HJ5.out; omega) t163 (a1.extract 1 a1.size) a2 t165 t166 _ A19.out).mono ?_); rintro e w' ⟨rfl, ⟨nd, rfl⟩⟩; refine ⟨_, rfl, ?_⟩) | ((with_reducible refine gate_callee (f := 57) rfl ?_); refine goesL_ (some 51) rfl rfl Try.func57 (by kernel_rfl) rfl #[.string t165, .string t164] rfl (by (try simp only [List.map_toArray, List.map_cons, List.map_nil]); first | done | rfl | (simp only [List.length_drop, List.length_take]; rfl)) ?_; (with_reducible refine (spec_trOf.calls t165 t164 t167 _ A20.out).mono ?_); rintro e w' ⟨rfl, ⟨nd, rfl⟩⟩; refine ⟨_, rfl, ?_⟩))
                go_ret2
                exact ⟨by first | rfl | (simp; done) | (simp [*]; done), by repeat (first | exact Drawn0.refl _ | apply Drawn0.step)⟩
              · rw [if_neg c18] at H
                exact absurd H (by simp)
            · rw [if_neg c17] at H
              have c17b0 : ((bt a1 0) == 48) = false := beq_eq_false_iff_ne.mpr c17
              have c17b1 : ((bt a1 0) != 48) = true := bne_iff_ne.mpr c17
              by_cases c21 : 1 ≤ (a1.size : Int)
              · rw [if_pos c21] at H
                have c21b0 := eq_true c21
                have c21b1 : decide (1 ≤ (a1.size : Int)) = true := decide_eq_true c21
                clear c21
                replace H := Option.bind_eq_some_iff.mp H
                obtain ⟨⟨t168, t169⟩, A220, H⟩ := H
                replace H : ((spec_trOf.f t163 t168).bind fun t170 => (some (t170, t169))) = some (r1, r2) := H
                have A22 := Aside0.mk A220
                clear A220
                replace H := Option.bind_eq_some_iff.mp H
                obtain ⟨t170, A230, H⟩ := H
                replace H : (some (t170, t169)) = some (r1, r2) := H
                have A23 := Aside0.mk A230
                clear A230
                simp only [Option.some.injEq, Prod.mk.injEq] at H
                obtain ⟨rfl, rfl⟩ := H
                go_wp2_with (first | ((with_reducible refine gate_callee (f := 92) rfl ?_); refine goesL_ (some 35) rfl rfl Try.func92 (by kernel_rfl) rfl #[.string a0] rfl (by (try simp only [List.map_toArray, List.map_cons, List.map_nil]); first | done | rfl | (simp only [List.length_drop, List.length_take]; rfl)) ?_; (with_reducible refine (spec_trSides.calls kj5 a0 t163 t164 _ A14.out).mono ?_); rintro e w' ⟨rfl, ⟨nd, rfl⟩⟩; refine ⟨_, rfl, ?_⟩; have p16 : 0 ≤ (0 : Int) := (by omega); have q16 : 0 < a1.size := (by have : (0 : Int) < (a1.size : Int) := of_decide_eq_true (by first | (with_reducible assumption) | assumption); omega); have hx16 : ∀ h : 0 < a1.size, ((a1[0]'h).toNat : Int) = bt a1 0 := bt_at a1 0; clear p16; have qi16 : (0 < (a1.size : Int)) = True := eq_true (of_decide_eq_true (by first | (with_reducible assumption) | assumption)); replace q16 := eq_true q16) | ((with_reducible refine gate_callee (f := 70) rfl ?_); refine goesL_ (some 58) rfl rfl Try.func70 (by kernel_rfl) rfl #[.string t164, .string (a1.extract 1 a1.size), .bool a2] rfl (by (try simp only [List.map_toArray, List.map_cons, List.map_nil]); first | done | rfl | (simp only [List.length_drop, List.length_take]; rfl)) ?_; (with_reducible refine (ih kj5 (by have := HJ5.out; omega) t164 (a1.extract 1 a1.size) a2 t168 t169 _ A22.out).mono ?_); rintro e w' ⟨rfl, ⟨nd, rfl⟩⟩; refine ⟨_, rfl, ?_⟩) | ((with_reducible refine gate_callee (f := 57) rfl ?_); refine goesL_ (some 63) rfl rfl Try.func57 (by kernel_rfl) rfl #[.string t163, .string t168] rfl (by (try simp only [List.map_toArray, List.map_cons, List.map_nil]); first | done | rfl | (simp only [List.length_drop, List.length_take]; rfl)) ?_; (with_reducible refine (spec_trOf.calls t163 t168 t170 _ A23.out).mono ?_); rintro e w' ⟨rfl, ⟨nd, rfl⟩⟩; refine ⟨_, rfl, ?_⟩))
                go_ret2
                exact ⟨by first | rfl | (simp; done) | (simp [*]; done), by repeat (first | exact Drawn0.refl _ | apply Drawn0.step)⟩
              · rw [if_neg c21] at H
                exact absurd H (by simp)
          · rw [if_neg c15] at H
            exact absurd H (by simp)

end Go.Proofs.Ytceabidnjlpkeaa.PFnExactRotationDistance
