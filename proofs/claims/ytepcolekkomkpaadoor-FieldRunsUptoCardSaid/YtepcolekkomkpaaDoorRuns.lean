import Derived.Test.YtepcolekkomkpaaDoorVxS3
import Derived.Test.YtepcolekkomkpaaDoorGlob
import Derived.Test.YtepcolekkomkpaaDoorVyM30
import Derived.Test.YtepcolekkomkpaaDoorCards
import Derived.Test.YtepcolekkomkpaaDoorTie
import Derived.SevenTiedAt
namespace Go.Proofs.YtepcolekkomkpaaDoor.fieldRunsUpto
open Go.ChangeShapes Go.WideShapes Go.ChangeAt Go.RowKit Go.Vx
set_option linter.unusedVariables false

theorem own : ownKnob Tryd.prog.godebug = none := by kernel_rfl

abbrev laid1 : List (String × DataW Unit) := [("veil/field.table", Rows.laid_veil_field_table), ("veil/veilref01.Zero", Rows.laid_veil_veilref01_Zero), ("veil/veilref01.prime", Rows.laid_veil_veilref01_prime)]

theorem door_met (os : Os) (args : Array Value) : laidMetH Tryd.prog laid1 ((World.doorLaid Tryd.prog 400 os).forCall (fun _ _ => 0) ⟨#[], args, []⟩).memory :=
  laidMetH_of_parts3 (fuel := 8) (laidMet_of_run' 8 (by kernel_rfl) (by kernel_rfl)) (by kernel_rfl) (by kernel_rfl)


theorem bulk_pos {H : Type} (d : DataW H) : 1 ≤ Rows.uptoBulk d := by
  cases d with
  | lit v => cases v <;> simp [Rows.uptoBulk]
  | _ => simp [Rows.uptoBulk]
theorem bulk_len {H : Type} : (l : List (DataW H)) → l.length ≤ Rows.uptoBulkAll l
  | [] => Nat.zero_le _
  | d :: l => by
    have h1 := bulk_len l
    have h2 := bulk_pos d
    simp only [Rows.uptoBulkAll, List.length_cons]
    omega
theorem bulk_mem {H : Type} : {l : List (DataW H)} → {d : DataW H} → d ∈ l → Rows.uptoBulk d ≤ Rows.uptoBulkAll l
  | _ :: _, _, .head _ => Nat.le_add_right _ _
  | _ :: _, _, .tail _ h => Nat.le_trans (bulk_mem h) (Nat.le_add_left _ _)
set_option maxRecDepth 100000 in
theorem lifted (os : Os) (started : os.Started) (H : Type) (enc : TypeId × Value → H) (F : Stop.Interp) :
    ReturnsInHanded {} Tryd.checked os 3 .any (fun w args => ((Rows.OpenSpec.upto Rows.fieldRunsSpec).pre enc Tryd.prog Tryd.f3 [] false w args ∧ laidMetH Tryd.prog laid1 w) ∧ sizedMet enc Tryd.prog Tryd.f3 (Rows.OpenSpec.upto Rows.fieldRunsSpec) false w args)
      (((Rows.OpenSpec.upto Rows.fieldRunsSpec).at F).post enc Tryd.prog Tryd.f3 false true false false) := by
  refine returnsInHanded_of_cond_and (k := Rows.uptoSmall) rfl (F := F) (C := Tryd.checked) (X := fun w _ => laidMetH Tryd.prog laid1 w) (fun _ _ _ hh h => h.of_heap hh) own started (by kernel_rfl) Tryd.func3
    (witness_cond (k := Rows.uptoSmall) rfl (enc := enc) (C := Tryd.checked) (os := os) (X := fun w _ => laidMetH Tryd.prog laid1 w) false (World.doorLaid Tryd.prog 400 os) #[.slice none 0 0, .slice none 0 0] 8 rfl (World.shaped_of_RefB (by kernel_rfl) (by kernel_rfl)) (by kernel_rfl) (by kernel_rfl) (door_met os _)) ?_
  intro W base args ds gs before hval0 hW _ hkk hL _
  have hval : ∀ (j : Nat) t v, Tryd.f3.params[j]? = some t → args[j]? = some v → Value.okWide Tryd.prog W .any base t v := hval0
  have hW' := hW
  obtain ⟨p, q, hA0, hV, rfl, hfz, hnd⟩ := hW
  have hA : DataW.TrodAll enc Tryd.prog W 0 (fun _ => true) true Tryd.f3.params.toList args.toList ds p := hA0
  rw [Tryd.params3] at hA hval
  obtain ⟨v0, vs0, d0, ds0, p0, q0, hargs, rfl, rfl, h0, r0⟩ := trodAll_cons hA
  obtain ⟨v1, vs1, d1, ds1, p1, q1, rfl, rfl, rfl, h1, r1⟩ := trodAll_cons r0
  obtain ⟨rfl, rfl, rfl⟩ := trodAll_nil r1
  obtain rfl : args = #[v0, v1] := by cases args; simp_all
  obtain ⟨rfl, rfl⟩ := trodVars_none hV
  obtain ⟨a0, sa0, ok0, hsl0⟩ := open_vec (c := (.ints .u64 5)) Tryd.underlying22 (by kernel_rfl) (hval 0 22 v0 rfl rfl) h0
  obtain ⟨a1, sa1, ok1, hsl1⟩ := open_vec (c := (.agg (.cons (.int .i64) (.cons (.int .i64) (.int .i64))))) Tryd.underlying23 (by kernel_rfl) (hval 1 23 v1 rfl rfl) h1
  rw [MakeChecks.laidMetH_plain _ _ _ (by kernel_rfl)] at hL
  obtain ⟨ps, hL, _⟩ := hL
  obtain ⟨g0, t0_, cs0, f0_, p0_, q0_, hg0, ht0, hv0, hd0, hl0, _⟩ := hL
  have hh0 := glob_table hg0 ht0 hv0 hd0
  obtain ⟨g1, t1_, cs1, f1_, p1_, q1_, hg1, ht1, hv1, hd1, hl1, _⟩ := hl0
  have hh1 := glob_Zero hg1 ht1 hv1 hd1
  obtain ⟨g2, t2_, cs2, f2_, p2_, q2_, hg2, ht2, hv2, hd2, hl2, _⟩ := hl1
  have hh2 := glob_prime hg2 ht2 hv2 hd2
  clear hA0 hval0
  simp only [List.append_nil] at hW'
  have hlt : ∀ x ∈ (p0 ++ p1), x.block < W.heap.size := fun x hx => by simpa using hW'.lt x (by simpa using hx)
  have hbk : Rows.uptoBulkAll ([d0, d1] ++ []) ≤ 1048576 := of_decide_eq_true hkk
  have len0 : a0.length ≤ 1048576 := by
    have hm := bulk_mem (l := [d0, d1] ++ []) (d := d0) (by simp)
    rcases hsl0 with ⟨rfl, rfl⟩ | ⟨es, sp, rfl, hl⟩
    · simp
    · have := bulk_len es
      simp only [Rows.uptoBulk] at hm
      omega
  have len1 : a1.length ≤ 1048576 := by
    have hm := bulk_mem (l := [d0, d1] ++ []) (d := d1) (by simp)
    rcases hsl1 with ⟨rfl, rfl⟩ | ⟨es, sp, rfl, hl⟩
    · simp
    · have := bulk_len es
      simp only [Rows.uptoBulk] at hm
      omega
  refine (calls_at (vs := [v0, v1]) Tryd.func3 (by kernel_rfl) (by kernel_rfl) (k_veillaw01_FieldRuns (w0 := W) 300 1100000 (globOK_cons hh2 (glob_nil _ _)) (globOK_cons hh1 (globOK_cons hh2 (glob_nil _ _))) (globOK_cons hh0 (glob_nil _ _)) (globOK_cons hh1 (glob_nil _ _)) (globOK_cons hh1 (glob_nil _ _))) (x := ((a0, ()), (a1, ()))) (y := true) rfl (Ref.runs_law 1100000 rfl a0 a1 ok0 len0 len1 (fun s hs => ⟨(ok1 s hs).2.1, (ok1 s hs).2.2⟩)) ⟨⟨ok0, trivial, trivial⟩, ⟨ok1, trivial, trivial⟩, trivial⟩ ⟨sa0, sa1, trivial⟩).mono fun e W' ⟨he, hb⟩ => ?_
  subst he
  exact ⟨_, rfl, post_below (pv := []) hW' (fun _ _ _ => (trodAll_cons_mk (shut_bool Tryd.underlying4 _) trodAll_mk0)) (trodAll_cons_mk (Below.trod (P := Tryd.prog) (by kernel_rfl) (by kernel_rfl) (of_decide_eq_true (by kernel_rfl)) h0 hb (fun x hx => hlt x (by simp [hx]))) (trodAll_cons_mk (Below.trod (P := Tryd.prog) (by kernel_rfl) (by kernel_rfl) (of_decide_eq_true (by kernel_rfl)) h1 hb (fun x hx => hlt x (by simp [hx]))) trodAll_mk0)) rfl hb⟩

theorem over : Rows.FieldRunsUptoSaid :=
  OpenClaim.holds_of_cond 3 Tryd.f3 rfl rfl rfl rfl rfl rfl rfl ⟨rfl, rfl, rfl, rfl, rfl⟩ rfl rfl rfl rfl rfl (by kernel_rfl) Tryd.func3 (by kernel_rfl)
    (of_decide_eq_true (by kernel_rfl)) (by unfold Func.isWrapper; first | (rw [if_pos (by decide +kernel)]; kernel_rfl) | (rw [if_neg (by decide +kernel)]; exact ⟨rfl, rfl⟩))
    (fun os started H enc _ F => lifted os started H enc F)

theorem proved : Rows.FieldRunsUptoCardSaid :=
  Claim7.holds_tied_plain_at .later [] [.data, .data, .data] true (true, "352307a4e556b72d0e406d7a74e84b079d6aaa63ab5bc7174567637fd49d7e51") false
    over (fun _ h => by cases h) (by kernel_rfl) (fun _ h => by cases h) fieldRunsUpto_row_tie rfl ⟨rfl, rfl⟩ (by kernel_rfl) rfl
    (fun f fn hf hfn => by
      obtain rfl : f = 3 := Option.some.inj ((show Tryd.prog.funcNamed "veil/veillaw01.FieldRuns" = some 3 by kernel_rfl).symm.trans hf) |>.symm
      obtain rfl : fn = Tryd.f3 := (Option.some.inj (Tryd.func3.symm.trans hfn)).symm
      exact ⟨by kernel_rfl, fun j t ht => by
        rw [Tryd.params3] at ht
        have hm := List.mem_of_getElem? (l := [22, 23]) (i := j) (a := t) (by simpa using ht)
        have hall : ([22, 23].all fun u => !Tryd.prog.wantsStandIn u) = true := by kernel_rfl
        exact (show Tryd.prog.wantsStandIn t = false by simpa using List.all_eq_true.1 hall t hm)⟩)
    (by kernel_rfl)
#print axioms proved
end Go.Proofs.YtepcolekkomkpaaDoor.fieldRunsUpto
