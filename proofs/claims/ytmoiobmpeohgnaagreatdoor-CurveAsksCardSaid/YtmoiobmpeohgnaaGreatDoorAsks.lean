import Derived.Test.YtmoiobmpeohgnaaGreatDoorVxS2
import Derived.Test.YtmoiobmpeohgnaaGreatDoorGlob
import Derived.Test.YtmoiobmpeohgnaaGreatDoorVyM40
import Derived.Test.YtmoiobmpeohgnaaGreatDoorCards
import Derived.Test.YtmoiobmpeohgnaaGreatDoorTie
import Derived.SevenTiedAt
namespace Go.Proofs.YtmoiobmpeohgnaaGreatDoor.curveAsks
open Go.ChangeShapes Go.WideShapes Go.ChangeAt Go.RowKit Go.Vx
set_option linter.unusedVariables false
theorem own : ownKnob Tryz.prog.godebug = none := by kernel_rfl
abbrev laid1 : List (String × DataW Unit) := [("veil/field.table", Rows.laid_veil_field_table), ("veil/scalar.table", Rows.laid_veil_scalar_table), ("veil/curve.one", Rows.laid_veil_curve_one), ("veil/curve.twice", Rows.laid_veil_curve_twice), ("veil/curve.base", Rows.laid_veil_curve_base), ("veil/curve.torsions", Rows.laid_veil_curve_torsions), ("veil/curve.order", Rows.laid_veil_curve_order), ("veil/veilref01.Zero", Rows.laid_veil_veilref01_Zero), ("veil/veilref01.One", Rows.laid_veil_veilref01_One), ("veil/veilref01.prime", Rows.laid_veil_veilref01_prime), ("veil/veillaw04.order", Rows.laid_veil_veillaw04_order)]
theorem door_met (os : Os) (args : Array Value) : laidMetH Tryz.prog laid1 ((World.doorLaid Tryz.prog 400 os).forCall (fun _ _ => 0) ⟨#[], args, []⟩).memory :=
  laidMetH_of_parts3 (fuel := 8) (laidMet_of_run' 8 (by kernel_rfl) (by kernel_rfl)) (by kernel_rfl) (by kernel_rfl)
set_option maxRecDepth 100000 in
theorem lifted (os : Os) (started : os.Started) (H : Type) (enc : TypeId × Value → H) :
    ReturnsInHanded {} Tryz.checked os 3 .any (fun w args => (Rows.curveAsksSpec.pre enc Tryz.prog Tryz.f3 [] false w args ∧ laidMetH Tryz.prog laid1 w) ∧ sizedMet enc Tryz.prog Tryz.f3 (OpenSpec.ofChange Rows.curveAsksSpec) false w args)
      (Rows.curveAsksSpec.post enc Tryz.prog Tryz.f3 false true false false) := by
  refine returnsInHanded_of_change_and (C := Tryz.checked) (X := fun w _ => laidMetH Tryz.prog laid1 w) (fun _ _ _ hh h => h.of_heap hh) own started (by kernel_rfl) Tryz.func3
    (ChangeSpec.witness_shaped (enc := enc) (C := Tryz.checked) (os := os) (X := fun w _ => laidMetH Tryz.prog laid1 w) false (World.doorLaid Tryz.prog 400 os) #[.slice none 0 0] 8 rfl (World.shaped_of_RefB (by kernel_rfl) (by kernel_rfl)) (by kernel_rfl) (by kernel_rfl) (by kernel_rfl) (door_met os _)) ?_
  intro W base args ds gs before hval0 hW _ hwt hL _
  have hval : ∀ (j : Nat) t v, Tryz.f3.params[j]? = some t → args[j]? = some v → Value.okWide Tryz.prog W .any base t v := hval0
  have hW' := hW
  obtain ⟨p, q, hA0, hV, rfl, hfz, hnd⟩ := hW
  have hA : DataW.TrodAll enc Tryz.prog W 0 (fun _ => true) true Tryz.f3.params.toList args.toList ds p := hA0
  rw [Tryz.params3] at hA hval
  obtain ⟨v0, vs0, d0, ds0, p0, q0, hargs, rfl, rfl, h0, r0⟩ := trodAll_cons hA
  obtain ⟨rfl, rfl, rfl⟩ := trodAll_nil r0
  obtain rfl : args = #[v0] := by cases args; simp_all
  obtain ⟨rfl, rfl⟩ := trodVars_none hV
  obtain ⟨a0, sa0, ok0, hsl0⟩ := ZED (c := (.agg (.cons (.int .i64) (.cons (.int .i64) (.cons (.int .i64) (.cons (.int .i64) (.cons (.ints .u8 32) (.cons (.ints .u64 4) (.cons (.ints .u64 5) (.ints .u64 5)))))))))) Tryz.underlying22 (by kernel_rfl) (hval 0 22 v0 rfl rfl) h0
  rw [MakeChecks.laidMetH_plain _ _ _ (by kernel_rfl)] at hL
  obtain ⟨ps, hL, _⟩ := hL
  obtain ⟨g0, t0_, cs0, f0_, p0_, q0_, hg0, ht0, hv0, hd0, hl0, _⟩ := hL
  have hh0 := ZoE hg0 ht0 hv0 hd0
  obtain ⟨g1, t1_, cs1, f1_, p1_, q1_, hg1, ht1, hv1, hd1, hl1, _⟩ := hl0
  have hh1 := Zn8 hg1 ht1 hv1 hd1
  obtain ⟨g2, t2_, cs2, f2_, p2_, q2_, hg2, ht2, hv2, hd2, hl2, _⟩ := hl1
  have hh2 := ZEE hg2 ht2 hv2 hd2
  obtain ⟨g3, t3_, cs3, f3_, p3_, q3_, hg3, ht3, hv3, hd3, hl3, _⟩ := hl2
  have hh3 := ZB2 hg3 ht3 hv3 hd3
  obtain ⟨g4, t4_, cs4, f4_, p4_, q4_, hg4, ht4, hv4, hd4, hl4, _⟩ := hl3
  have hh4 := ZCE hg4 ht4 hv4 hd4
  obtain ⟨g5, t5_, cs5, f5_, p5_, q5_, hg5, ht5, hv5, hd5, hl5, _⟩ := hl4
  have hh5 := Zx3 hg5 ht5 hv5 hd5
  obtain ⟨g6, t6_, cs6, f6_, p6_, q6_, hg6, ht6, hv6, hd6, hl6, _⟩ := hl5
  have hh6 := ZoF hg6 ht6 hv6 hd6
  obtain ⟨g7, t7_, cs7, f7_, p7_, q7_, hg7, ht7, hv7, hd7, hl7, _⟩ := hl6
  have hh7 := ZCF hg7 ht7 hv7 hd7
  obtain ⟨g8, t8_, cs8, f8_, p8_, q8_, hg8, ht8, hv8, hd8, hl8, _⟩ := hl7
  have hh8 := ZEF hg8 ht8 hv8 hd8
  obtain ⟨g9, t9_, cs9, f9_, p9_, q9_, hg9, ht9, hv9, hd9, hl9, _⟩ := hl8
  have hh9 := ZB3 hg9 ht9 hv9 hd9
  obtain ⟨g10, t10_, cs10, f10_, p10_, q10_, hg10, ht10, hv10, hd10, hl10, _⟩ := hl9
  have hh10 := ZlS hg10 ht10 hv10 hd10
  clear hA0 hval0
  simp only [List.append_nil] at hW'
  have hlt : ∀ x ∈ (p0), x.block < W.heap.size := fun x hx => by simpa using hW'.lt x (by simpa using hx)
  have len0 : a0.length * 176 ≤ 140737488355328 := by
    rcases hsl0 with ⟨rfl, rfl⟩ | ⟨es, sp, rfl, hl⟩
    · simp
    · have h0 : (es.length + sp.length) * Tryz.prog.bytesOf 53 ≤ reachBytes := sized_slice (j := 0) (t := 22) (e := 53) (elems := es) (spare := sp) hwt (by rfl) (by rfl) Tryz.underlying22
      rw [show Tryz.prog.bytesOf 53 = 176 by kernel_rfl] at h0
      have h1 : es.length * 176 ≤ (es.length + sp.length) * 176 := Nat.mul_le_mul_right _ (Nat.le_add_right _ _)
      have h2 : reachBytes = 140737488351232 := rfl
      rw [hl] at h1
      omega
  refine (ZEG (vs := [v0]) Tryz.func3 (by kernel_rfl) (by kernel_rfl) (ZoG (w0 := W) 300 (a0.length + 3) (Za3 hh4 (Zar _ _)) (Za3 hh8 (Zar _ _)) (Za3 hh9 (Zar _ _)) (Za3 hh7 (Za3 hh9 (Zar _ _))) (Za3 hh7 (Zar _ _)) (Za3 hh7 (Zar _ _)) (Za3 hh8 (Zar _ _)) (Za3 hh2 (Zar _ _)) (Za3 hh3 (Zar _ _)) (Za3 hh6 (Zar _ _)) (Za3 hh8 (Zar _ _)) (Za3 hh8 (Zar _ _)) (Za3 hh8 (Zar _ _)) (Za3 hh1 (Zar _ _)) (Za3 hh1 (Zar _ _)) (Za3 hh10 (Zar _ _)) (Za3 hh10 (Zar _ _)) (Za3 hh5 (Zar _ _)) (Za3 hh7 (Zar _ _)) (Za3 hh0 (Zar _ _)) (Za3 hh2 (Zar _ _)) (Za3 hh2 (Zar _ _)) (Za3 hh8 (Zar _ _)) (Za3 hh0 (Zar _ _)) (Za3 hh2 (Zar _ _)) (Za3 hh7 (Zar _ _))) (x := (a0, ())) (y := true) rfl (ZEH (a0.length + 3) a0 rfl (fun s hs => ⟨(ok0 s hs).2.2.2.1, (ok0 s hs).2.2.2.2.1, (ok0 s hs).2.2.2.2.2.1, (ok0 s hs).2.2.2.2.2.2.1, (ok0 s hs).2.2.2.2.2.2.2⟩) len0) ⟨⟨ok0, trivial, trivial⟩, trivial⟩ ⟨sa0, trivial⟩).mono fun e W' ⟨he, hb⟩ => ?_
  subst he
  exact ⟨_, rfl, ZB4 (pv := []) hW' (fun _ _ _ => (trodAll_cons_mk (shut_bool Tryz.underlying4 _) trodAll_mk0)) (trodAll_cons_mk (Below.trod (P := Tryz.prog) (by kernel_rfl) (by kernel_rfl) (of_decide_eq_true (by kernel_rfl)) h0 hb (fun x hx => hlt x (by simp [hx]))) trodAll_mk0) rfl hb⟩
theorem over : Rows.CurveAsksSaid :=
  OpenClaim.holds_of_wide 3 Tryz.f3 rfl rfl rfl rfl rfl rfl rfl ⟨rfl, rfl, rfl, rfl, rfl⟩ rfl rfl rfl rfl rfl (by kernel_rfl) Tryz.func3 (by kernel_rfl)
    (of_decide_eq_true (by kernel_rfl)) (by unfold Func.isWrapper; first | (rw [if_pos (by decide +kernel)]; kernel_rfl) | (rw [if_neg (by decide +kernel)]; exact ⟨rfl, rfl⟩))
    (fun os started H enc _ => lifted os started H enc)
theorem proved : Rows.CurveAsksCardSaid :=
  Claim7.holds_tied_plain_at .later [] [.data, .data, .wider, .data, .data, .data, .data, .data, .wider, .data, .data] true (true, "4b662cb7ef34fd34b0bea6cec465d889c42ec3838c3c3dfd564fcf1961b00002") false
    over (fun _ h => by cases h) (by kernel_rfl) (fun _ h => by cases h) curveAsks_row_tie rfl ⟨rfl, rfl⟩ (by kernel_rfl) rfl
    (fun f fn hf hfn => by
      obtain rfl : f = 3 := Option.some.inj ((show Tryz.prog.funcNamed "veil/veillaw04.CurveAsks" = some 3 by kernel_rfl).symm.trans hf) |>.symm
      obtain rfl : fn = Tryz.f3 := (Option.some.inj (Tryz.func3.symm.trans hfn)).symm
      exact ⟨by kernel_rfl, fun j t ht => by
        rw [Tryz.params3] at ht
        have hm := List.mem_of_getElem? (l := [22]) (i := j) (a := t) (by simpa using ht)
        have hall : ([22].all fun u => !Tryz.prog.wantsStandIn u) = true := by kernel_rfl
        exact (show Tryz.prog.wantsStandIn t = false by simpa using List.all_eq_true.1 hall t hm)⟩)
    (by kernel_rfl)
#print axioms proved
end Go.Proofs.YtmoiobmpeohgnaaGreatDoor.curveAsks
