import Derived.Test.YtoionfdfofmplaaDoorVxS6
import Derived.Test.YtoionfdfofmplaaDoorGlob
import Derived.Test.YtoionfdfofmplaaDoorVyMAg
import Derived.Test.YtoionfdfofmplaaDoorFw
import Derived.Test.YtoionfdfofmplaaDoorCards
import Derived.Test.YtoionfdfofmplaaDoorTie
import Derived.SevenTiedAt
namespace Go.Proofs.YtoionfdfofmplaaDoor.wireAgainUpto
open Go.ChangeShapes Go.WideShapes Go.ChangeAt Go.RowKit Go.Vx
set_option linter.unusedVariables false
set_option linter.unusedSimpArgs false
theorem own : ownKnob Tryd.prog.godebug = none := by kernel_rfl
abbrev laid1 : List (String × DataW Unit) := [("veil/veilref03.round", Rows.laid_veil_veilref03_round), ("veil/veilref03.first", Rows.laid_veil_veilref03_first), ("veil/scalar.table", Rows.laid_veil_scalar_table), ("veil/veilref01.Zero", Rows.laid_veil_veilref01_Zero), ("veil/veilref01.One", Rows.laid_veil_veilref01_One), ("veil/veilref01.prime", Rows.laid_veil_veilref01_prime)]
theorem door_met (os : Os) (args : Array Value) : laidMetH Tryd.prog laid1 ((World.doorLaid Tryd.prog 400 os).forCall (fun _ _ => 0) ⟨#[], args, []⟩).memory :=
  laidMetH_of_parts3 (fuel := 8) (laidMet_of_run' 8 (by kernel_rfl) (by kernel_rfl)) (by kernel_rfl) (by kernel_rfl)
theorem bulk_pos {H : Type} (d : DataW H) : 1 ≤ Rows.uptoBulk d := by
  cases d with
  | lit v => cases v <;> simp [Rows.uptoBulk]
  | _ => simp [Rows.uptoBulk]
theorem bulk_mem {H : Type} : {l : List (DataW H)} → {d : DataW H} → d ∈ l → Rows.uptoBulk d ≤ Rows.uptoBulkAll l
  | _ :: _, _, .head _ => Nat.le_add_right _ _
  | _ :: _, _, .tail _ h => Nat.le_trans (bulk_mem h) (Nat.le_add_left _ _)
def bulk (H : Type) : Bulk H :=
  { B := Rows.uptoBulk, A := Rows.uptoBulkAll, pos := bulk_pos, cons := fun _ _ => Nat.le_refl _, slice := fun e s => by simp only [Rows.uptoBulk]; omega, agg := fun p => by simp only [Rows.uptoBulk]; omega }
set_option maxRecDepth 100000 in
theorem lifted (os : Os) (started : os.Started) (H : Type) (enc : TypeId × Value → H) (F : Stop.Interp) :
    ReturnsInHanded {} Tryd.checked os 4 .any (fun w args => ((Rows.OpenSpec.upto Rows.wireAgainSpec).pre enc Tryd.prog Tryd.f4 [] false w args ∧ laidMetH Tryd.prog laid1 w) ∧ sizedMet enc Tryd.prog Tryd.f4 (Rows.OpenSpec.upto Rows.wireAgainSpec) false w args)
      (((Rows.OpenSpec.upto Rows.wireAgainSpec).at F).post enc Tryd.prog Tryd.f4 false true false false) := by
  refine Zhw (k := Rows.uptoSmall) rfl (F := F) (C := Tryd.checked) (X := fun w _ => laidMetH Tryd.prog laid1 w) (fun _ _ _ hh h => h.of_heap hh) own started (by kernel_rfl) Tryd.func4
    (Zo1 (k := Rows.uptoSmall) rfl (enc := enc) (C := Tryd.checked) (os := os) (X := fun w _ => laidMetH Tryd.prog laid1 w) false (World.doorLaid Tryd.prog 400 os) #[.agg #[.int .u64 0, .int .u64 0, .int .u64 0, .int .u64 0, .int .u64 0, .int .u64 0, .int .u64 0, .int .u64 0, .int .u64 0, .int .u64 0, .int .u64 0, .int .u64 0, .int .u64 0, .int .u64 0, .int .u64 0, .int .u64 0, .int .u64 0, .int .u64 0, .int .u64 0, .int .u64 0, .int .u64 0, .int .u64 0, .int .u64 0, .int .u64 0, .int .u64 0, .int .u64 0, .int .u64 0, .int .u64 0, .slice none 0 0, .slice none 0 0, .int .u64 0, .int .u64 0, .int .u64 0, .int .u64 0, .int .u64 0, .int .u64 0, .int .u64 0, .int .u64 0], .agg #[.int .u64 0, .int .u64 0, .int .u64 0, .int .u64 0, .int .u64 0, .int .u64 0, .int .u64 0, .int .u64 0, .int .u64 0, .int .u64 0, .int .u64 0, .int .u64 0, .int .u64 0, .int .u64 0, .int .u64 0, .int .u64 0, .int .u64 0, .int .u64 0, .int .u64 0, .int .u64 0, .int .u64 0, .int .u64 0, .int .u64 0, .int .u64 0, .int .u64 0, .int .u64 0, .int .u64 0, .int .u64 0, .slice none 0 0, .slice none 0 0, .int .u64 0, .int .u64 0, .int .u64 0, .int .u64 0, .int .u64 0, .int .u64 0, .int .u64 0, .int .u64 0], .slice none 0 0] 8 rfl (World.shaped_of_RefB (by kernel_rfl) (by kernel_rfl)) (by kernel_rfl) (by kernel_rfl) (door_met os _)) ?_
  intro W base args ds gs before hval0 hW _ hkk hL _
  have hval : ∀ (j : Nat) t v, Tryd.f4.params[j]? = some t → args[j]? = some v → Value.okWide Tryd.prog W .any base t v := hval0
  have hW' := hW
  obtain ⟨p, q, hA0, hV, rfl, hfz, hnd⟩ := hW
  have hA : DataW.TrodAll enc Tryd.prog W 0 (fun _ => true) true Tryd.f4.params.toList args.toList ds p := hA0
  rw [Tryd.params4] at hA hval
  obtain ⟨v0, vs0, d0, ds0, p0, q0, hargs, rfl, rfl, h0, r0⟩ := trodAll_cons hA
  obtain ⟨v1, vs1, d1, ds1, p1, q1, rfl, rfl, rfl, h1, r1⟩ := trodAll_cons r0
  obtain ⟨v2, vs2, d2, ds2, p2, q2, rfl, rfl, rfl, h2, r2⟩ := trodAll_cons r1
  obtain ⟨rfl, rfl, rfl⟩ := trodAll_nil r2
  obtain rfl : args = #[v0, v1, v2] := by cases args; simp_all
  obtain ⟨rfl, rfl⟩ := trodVars_none hV
  have hbk : Rows.uptoBulkAll ([d0, d1, d2] ++ []) ≤ 1048576 := of_decide_eq_true hkk
  obtain ⟨a0, ns0, nk0, nK0, nv0, wt0_⟩ := Zp9 (p := (.agg (.cons (.agg (.cons (.ints .u64 4) (.cons (.ints .u64 4) (.cons (.ints .u64 4) (.one (.ints .u64 4)))))) (.cons (.ints .u64 4) (.cons (.ints .u64 4) (.cons (.ints .u64 4) (.cons (.dvw 32 24 (.tc (.ints .u64 4))) (.cons (.dvw 33 24 (.tc (.ints .u64 4))) (.cons (.ints .u64 4) (.one (.ints .u64 4))))))))))) (bulk H) (by simp only [DpTy, DgTy]; exact .inl ⟨_, Tryd.underlying28, ⟨_, _, rfl, (by show _ = _; kernel_rfl), .inr ⟨_, _, Tryd.underlying25, ⟨_, _, rfl, (by show _ = _; kernel_rfl), ⟨_, Tryd.underlying24, Tryd.underlying22, (by show _ = _; kernel_rfl), (by show _ = _; kernel_rfl)⟩, ⟨_, _, rfl, (by show _ = _; kernel_rfl), ⟨_, Tryd.underlying24, Tryd.underlying22, (by show _ = _; kernel_rfl), (by show _ = _; kernel_rfl)⟩, ⟨_, _, rfl, (by show _ = _; kernel_rfl), ⟨_, Tryd.underlying24, Tryd.underlying22, (by show _ = _; kernel_rfl), (by show _ = _; kernel_rfl)⟩, ⟨_, rfl, (by show _ = _; kernel_rfl), ⟨_, Tryd.underlying24, Tryd.underlying22, (by show _ = _; kernel_rfl), (by show _ = _; kernel_rfl)⟩, (by show _ = _; kernel_rfl)⟩⟩⟩⟩⟩, ⟨_, _, rfl, (by show _ = _; kernel_rfl), ⟨_, Tryd.underlying24, Tryd.underlying22, (by show _ = _; kernel_rfl), (by show _ = _; kernel_rfl)⟩, ⟨_, _, rfl, (by show _ = _; kernel_rfl), ⟨_, Tryd.underlying24, Tryd.underlying22, (by show _ = _; kernel_rfl), (by show _ = _; kernel_rfl)⟩, ⟨_, _, rfl, (by show _ = _; kernel_rfl), ⟨_, Tryd.underlying24, Tryd.underlying22, (by show _ = _; kernel_rfl), (by show _ = _; kernel_rfl)⟩, ⟨_, _, rfl, (by show _ = _; kernel_rfl), ⟨Tryd.underlying26, by kernel_rfl, by kernel_rfl, by kernel_rfl⟩, ⟨_, _, rfl, (by show _ = _; kernel_rfl), ⟨Tryd.underlying26, by kernel_rfl, by kernel_rfl, by kernel_rfl⟩, ⟨_, _, rfl, (by show _ = _; kernel_rfl), ⟨_, Tryd.underlying24, Tryd.underlying22, (by show _ = _; kernel_rfl), (by show _ = _; kernel_rfl)⟩, ⟨_, rfl, (by show _ = _; kernel_rfl), ⟨_, Tryd.underlying24, Tryd.underlying22, (by show _ = _; kernel_rfl), (by show _ = _; kernel_rfl)⟩, (by show _ = _; kernel_rfl)⟩⟩⟩⟩⟩⟩⟩⟩⟩) (hval 0 28 v0 rfl rfl) h0
  have wt0 := Nat.le_trans wt0_ (Nat.le_trans (bulk_mem (l := [d0, d1, d2] ++ []) (d := d0) (by simp)) hbk)
  obtain ⟨a1, ns1, nk1, nK1, nv1, wt1_⟩ := Zp9 (p := (.agg (.cons (.agg (.cons (.ints .u64 4) (.cons (.ints .u64 4) (.cons (.ints .u64 4) (.one (.ints .u64 4)))))) (.cons (.ints .u64 4) (.cons (.ints .u64 4) (.cons (.ints .u64 4) (.cons (.dvw 34 24 (.tc (.ints .u64 4))) (.cons (.dvw 35 24 (.tc (.ints .u64 4))) (.cons (.ints .u64 4) (.one (.ints .u64 4))))))))))) (bulk H) (by simp only [DpTy, DgTy]; exact .inl ⟨_, Tryd.underlying28, ⟨_, _, rfl, (by show _ = _; kernel_rfl), .inr ⟨_, _, Tryd.underlying25, ⟨_, _, rfl, (by show _ = _; kernel_rfl), ⟨_, Tryd.underlying24, Tryd.underlying22, (by show _ = _; kernel_rfl), (by show _ = _; kernel_rfl)⟩, ⟨_, _, rfl, (by show _ = _; kernel_rfl), ⟨_, Tryd.underlying24, Tryd.underlying22, (by show _ = _; kernel_rfl), (by show _ = _; kernel_rfl)⟩, ⟨_, _, rfl, (by show _ = _; kernel_rfl), ⟨_, Tryd.underlying24, Tryd.underlying22, (by show _ = _; kernel_rfl), (by show _ = _; kernel_rfl)⟩, ⟨_, rfl, (by show _ = _; kernel_rfl), ⟨_, Tryd.underlying24, Tryd.underlying22, (by show _ = _; kernel_rfl), (by show _ = _; kernel_rfl)⟩, (by show _ = _; kernel_rfl)⟩⟩⟩⟩⟩, ⟨_, _, rfl, (by show _ = _; kernel_rfl), ⟨_, Tryd.underlying24, Tryd.underlying22, (by show _ = _; kernel_rfl), (by show _ = _; kernel_rfl)⟩, ⟨_, _, rfl, (by show _ = _; kernel_rfl), ⟨_, Tryd.underlying24, Tryd.underlying22, (by show _ = _; kernel_rfl), (by show _ = _; kernel_rfl)⟩, ⟨_, _, rfl, (by show _ = _; kernel_rfl), ⟨_, Tryd.underlying24, Tryd.underlying22, (by show _ = _; kernel_rfl), (by show _ = _; kernel_rfl)⟩, ⟨_, _, rfl, (by show _ = _; kernel_rfl), ⟨Tryd.underlying26, by kernel_rfl, by kernel_rfl, by kernel_rfl⟩, ⟨_, _, rfl, (by show _ = _; kernel_rfl), ⟨Tryd.underlying26, by kernel_rfl, by kernel_rfl, by kernel_rfl⟩, ⟨_, _, rfl, (by show _ = _; kernel_rfl), ⟨_, Tryd.underlying24, Tryd.underlying22, (by show _ = _; kernel_rfl), (by show _ = _; kernel_rfl)⟩, ⟨_, rfl, (by show _ = _; kernel_rfl), ⟨_, Tryd.underlying24, Tryd.underlying22, (by show _ = _; kernel_rfl), (by show _ = _; kernel_rfl)⟩, (by show _ = _; kernel_rfl)⟩⟩⟩⟩⟩⟩⟩⟩⟩) (hval 1 28 v1 rfl rfl) h1
  have wt1 := Nat.le_trans wt1_ (Nat.le_trans (bulk_mem (l := [d0, d1, d2] ++ []) (d := d1) (by simp)) hbk)
  obtain ⟨a2, ns2, nk2, nK2, nv2, wt2_⟩ := Zp9 (p := (.dvw 36 5 (.tc (.int .u8)))) (bulk H) (by simp only [DpTy, DgTy]; exact ⟨Tryd.underlying29, by kernel_rfl, by kernel_rfl, by kernel_rfl⟩) (hval 2 29 v2 rfl rfl) h2
  have wt2 := Nat.le_trans wt2_ (Nat.le_trans (bulk_mem (l := [d0, d1, d2] ++ []) (d := d2) (by simp)) hbk)
  rw [MakeChecks.laidMetH_plain _ _ _ (by kernel_rfl)] at hL
  obtain ⟨ps, hL, _⟩ := hL
  obtain ⟨g0, t0_, cs0, f0_, p0_, q0_, hg0, ht0, hv0, hd0, hl0, _⟩ := hL
  obtain ⟨g1, t1_, cs1, f1_, p1_, q1_, hg1, ht1, hv1, hd1, hl1, _⟩ := hl0
  obtain ⟨g2, t2_, cs2, f2_, p2_, q2_, hg2, ht2, hv2, hd2, hl2, _⟩ := hl1
  have hh2 := Zrm hg2 ht2 hv2 hd2
  obtain ⟨g3, t3_, cs3, f3_, p3_, q3_, hg3, ht3, hv3, hd3, hl3, _⟩ := hl2
  obtain ⟨g4, t4_, cs4, f4_, p4_, q4_, hg4, ht4, hv4, hd4, hl4, _⟩ := hl3
  obtain ⟨g5, t5_, cs5, f5_, p5_, q5_, hg5, ht5, hv5, hd5, hl5, _⟩ := hl4
  clear hA0 hval0
  simp only [List.append_nil] at hW'
  have hlt : ∀ x ∈ (p0 ++ p1 ++ p2), x.block < W.heap.size := fun x hx => by simpa using hW'.lt x (by simpa using hx)
  let ρ : Rho := rhoOf (ns0 ++ ns1 ++ ns2)
  have nk0' : ns0.map (·.1) = [32, 33] := nk0
  have nk1' : ns1.map (·.1) = [34, 35] := nk1
  have nk2' : ns2.map (·.1) = [36] := nk2
  have hnd : ((ns0 ++ ns1 ++ ns2).map (·.1)).Nodup := by simp only [List.map_append, nk0', nk1', nk2']; decide
  obtain ⟨e0, ok0⟩ := nv0 ρ fun a ha => Zlc _ hnd a (by simp [ha])
  obtain ⟨e1, ok1⟩ := nv1 ρ fun a ha => Zlc _ hnd a (by simp [ha])
  obtain ⟨e2, ok2⟩ := nv2 ρ fun a ha => Zlc _ hnd a (by simp [ha])
  have hρ : ∀ b nm, ρ b = some nm → (32 ≤ b ∧ b < 88) ∧ isKof W nm.K := by
    intro b nm hb
    have hm := ZmP _ hb
    simp only [List.mem_append] at hm
    have hk : b ∈ ([32, 33] ++ [34, 35] ++ [36] : List Nat) := by
      have := List.mem_map_of_mem (f := (·.1)) (ZmP _ hb)
      simpa only [List.map_append, nk0', nk1', nk2'] using this
    refine ⟨(by decide : ∀ b ∈ ([32, 33, 34, 35, 36] : List Nat), 32 ≤ b ∧ b < 88) b (by simpa using hk), ?_⟩
    rcases hm with (h | h) | h
    · exact nK0 _ h
    · exact nK1 _ h
    · exact nK2 _ h
  have okw := ok0
  simp only [Pt.mk, Ag.mk, OK, OKL, and_true] at okw
  obtain ⟨⟨k0, k1, k2, k3⟩, k4, k5, k6, ⟨_, _, -, -, -, kL, -⟩, ⟨_, _, -, -, -, kR, -⟩, k7, k8⟩ := okw
  have okz := ok1
  simp only [Pt.mk, Ag.mk, OK, OKL, and_true] at okz
  obtain ⟨⟨j0, j1, j2, j3⟩, j4, j5, j6, ⟨_, _, -, -, -, jL, -⟩, ⟨_, _, -, -, -, jR, -⟩, j7, j8⟩ := okz
  simp only [Pt.wt, Ag.wt, Dc.wt] at wt2
  have hlaw := Go.Vx.Ag.wireAgain_law 3000000 a0 a1 a2 ⟨⟨u4_of k0, u4_of k1, u4_of k2, u4_of k3⟩, u4_of k4, u4_of k5, u4_of k6, fun x hx => u4_of (ZqB kL x hx), fun x hx => u4_of (ZqB kR x hx), u4_of k7, u4_of k8⟩ ⟨⟨u4_of j0, u4_of j1, u4_of j2, u4_of j3⟩, u4_of j4, u4_of j5, u4_of j6, fun x hx => u4_of (ZqB jL x hx), fun x hx => u4_of (ZqB jR x hx), u4_of j7, u4_of j8⟩ (by omega) (by decide)
  refine (io_at (vs := [v0, v1, v2]) (ZjU (w0 := W) 3000000 (ZmQ hh2 (ZaP _ _)) (ZmQ hh2 (ZaP _ _))) Tryd.func4 (x := ((a0, a1, a2), (), ())) (y := (true, ())) hlaw rfl (ρ := ρ) hρ ⟨ok0, ⟨ok1, ⟨ok2, trivial⟩⟩⟩ (by show [den _ ρ (Pt.mk (.agg (.cons (.agg (.cons (.ints .u64 4) (.cons (.ints .u64 4) (.cons (.ints .u64 4) (.one (.ints .u64 4)))))) (.cons (.ints .u64 4) (.cons (.ints .u64 4) (.cons (.ints .u64 4) (.cons (.dvw 32 24 (.tc (.ints .u64 4))) (.cons (.dvw 33 24 (.tc (.ints .u64 4))) (.cons (.ints .u64 4) (.one (.ints .u64 4)))))))))) a0), den _ ρ (Pt.mk (.agg (.cons (.agg (.cons (.ints .u64 4) (.cons (.ints .u64 4) (.cons (.ints .u64 4) (.one (.ints .u64 4)))))) (.cons (.ints .u64 4) (.cons (.ints .u64 4) (.cons (.ints .u64 4) (.cons (.dvw 34 24 (.tc (.ints .u64 4))) (.cons (.dvw 35 24 (.tc (.ints .u64 4))) (.cons (.ints .u64 4) (.one (.ints .u64 4)))))))))) a1), den _ ρ (Pt.mk (.dvw 36 5 (.tc (.int .u8))) a2)] = [v0, v1, v2]; rw [← e0, ← e1, ← e2]) (r := .bool true) (fun _ => rfl)).mono fun e W' ⟨he, hb⟩ => ?_
  subst he
  exact ⟨_, rfl, Zrn (s := ((Rows.OpenSpec.upto Rows.wireAgainSpec).at F)) (pv := []) hW' (fun _ _ _ => (trodAll_cons_mk (shut_bool Tryd.underlying4 _) trodAll_mk0)) (trodAll_cons_mk (Below.trod (P := Tryd.prog) (by kernel_rfl) (by kernel_rfl) (of_decide_eq_true (by kernel_rfl)) h0 hb (fun x hx => hlt x (by simp [hx]))) (trodAll_cons_mk (Below.trod (P := Tryd.prog) (by kernel_rfl) (by kernel_rfl) (of_decide_eq_true (by kernel_rfl)) h1 hb (fun x hx => hlt x (by simp [hx]))) (trodAll_cons_mk (Below.trod (P := Tryd.prog) (by kernel_rfl) (by kernel_rfl) (of_decide_eq_true (by kernel_rfl)) h2 hb (fun x hx => hlt x (by simp [hx]))) trodAll_mk0))) rfl hb⟩
theorem over : Rows.WireAgainUptoSaid :=
  OpenClaim.holds_of_cond 4 Tryd.f4 rfl rfl rfl rfl rfl rfl rfl ⟨rfl, rfl, rfl, rfl, rfl⟩ rfl rfl rfl rfl rfl (by kernel_rfl) Tryd.func4 (by kernel_rfl)
    (of_decide_eq_true (by kernel_rfl)) (by unfold Func.isWrapper; first | (rw [if_pos (by decide +kernel)]; kernel_rfl) | (rw [if_neg (by decide +kernel)]; exact ⟨rfl, rfl⟩))
    (fun os started H enc _ F => lifted os started H enc F)
theorem proved : Rows.WireAgainUptoCardSaid :=
  Claim7.holds_tied_plain_at .later [] [.data, .data, .data, .data, .wider, .data] true (true, "a796de57d188caeb9f4d24d080f2d00cecd97948e51826f3d279eeb500d3b5d1") false
    over (fun _ h => by cases h) (by kernel_rfl) (fun _ h => by cases h) wireAgainUpto_row_tie rfl ⟨rfl, rfl⟩ (by kernel_rfl) rfl
    (fun f fn hf hfn => by
      obtain rfl : f = 4 := Option.some.inj ((show Tryd.prog.funcNamed "veil/veillaw10.WireAgain" = some 4 by kernel_rfl).symm.trans hf) |>.symm
      obtain rfl : fn = Tryd.f4 := (Option.some.inj (Tryd.func4.symm.trans hfn)).symm
      exact ⟨by kernel_rfl, fun j t ht => by
        rw [Tryd.params4] at ht
        have hm := List.mem_of_getElem? (l := [28, 28, 29]) (i := j) (a := t) (by simpa using ht)
        have hall : ([28, 28, 29].all fun u => !Tryd.prog.wantsStandIn u) = true := by kernel_rfl
        exact (show Tryd.prog.wantsStandIn t = false by simpa using List.all_eq_true.1 hall t hm)⟩)
    (by kernel_rfl)
#print axioms proved
end Go.Proofs.YtoionfdfofmplaaDoor.wireAgainUpto
