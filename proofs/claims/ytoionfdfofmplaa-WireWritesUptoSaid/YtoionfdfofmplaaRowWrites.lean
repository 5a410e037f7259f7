import Derived.Test.YtoionfdfofmplaaVxS5
import Derived.Test.YtoionfdfofmplaaFw
import Derived.Test.YtoionfdfofmplaaWrites
import Derived.Test.YtoionfdfofmplaaRows
namespace Go.Proofs.Ytoionfdfofmplaa.wireWritesUpto
open Go.ChangeShapes Go.WideShapes Go.ChangeAt Go.RowKit Go.Vx
set_option linter.unusedVariables false

theorem own : ownKnob Try.prog.godebug = none := by kernel_rfl

theorem bulk_pos {H : Type} (d : DataW H) : 1 ≤ Rows.uptoBulk d := by
  cases d with
  | lit v => cases v <;> simp [Rows.uptoBulk]
  | _ => simp [Rows.uptoBulk]
theorem bulk_mem {H : Type} : {l : List (DataW H)} → {d : DataW H} → d ∈ l → Rows.uptoBulk d ≤ Rows.uptoBulkAll l
  | _ :: _, _, .head _ => Nat.le_add_right _ _
  | _ :: _, _, .tail _ h => Nat.le_trans (bulk_mem h) (Nat.le_add_left _ _)
def bulk (H : Type) : Bulk H :=
  { B := Rows.uptoBulk, A := Rows.uptoBulkAll, pos := bulk_pos, cons := fun _ _ => Nat.le_refl _, slice := fun e s => by simp only [Rows.uptoBulk]; omega, agg := fun p => by simp only [Rows.uptoBulk]; omega }

set_option maxRecDepth 100000 in
theorem lifted (os : Os) (started : os.Started) (H : Type) (enc : TypeId × Value → H) (F : Stop.Interp) :
    ReturnsInHanded {} Try.checked os 4 .any ((Rows.OpenSpec.upto Rows.wireWritesSpec).pre6 enc Try.prog Try.f4 [] false) (((Rows.OpenSpec.upto Rows.wireWritesSpec).at F).post enc Try.prog Try.f4 false true false false) := by
  refine returnsInHanded_of_cond (C := Try.checked) (k := Rows.uptoSmall) rfl (F := F) own started (by kernel_rfl) Try.func4
    (witness_upto (enc := enc) (C := Try.checked) (os := os) (k := Rows.uptoSmall) rfl false ⟨#[], #[.slice none 0 0, .slice none 0 0, .int .u64 0], []⟩ 8 (by kernel_rfl) (by kernel_rfl) (by kernel_rfl) (by kernel_rfl) (by kernel_rfl)) ?_
  intro W base args ds gs before hval0 hW _ hkk _
  have hval : ∀ (j : Nat) t v, Try.f4.params[j]? = some t → args[j]? = some v → Value.okWide Try.prog W .any base t v := hval0
  have hW' := hW
  obtain ⟨p, q, hA0, hV, rfl, hfz, hnd⟩ := hW
  have hA : DataW.TrodAll enc Try.prog W 0 (fun _ => true) true Try.f4.params.toList args.toList ds p := hA0
  rw [Try.params4] at hA hval
  obtain ⟨v0, vs0, d0, ds0, p0, q0, hargs, rfl, rfl, h0, r0⟩ := trodAll_cons hA
  obtain ⟨v1, vs1, d1, ds1, p1, q1, rfl, rfl, rfl, h1, r1⟩ := trodAll_cons r0
  obtain ⟨v2, vs2, d2, ds2, p2, q2, rfl, rfl, rfl, h2, r2⟩ := trodAll_cons r1
  obtain ⟨rfl, rfl, rfl⟩ := trodAll_nil r2
  obtain rfl : args = #[v0, v1, v2] := by cases args; simp_all
  obtain ⟨rfl, rfl⟩ := trodVars_none hV
  have hbk : Rows.uptoBulkAll ([d0, d1, d2] ++ []) ≤ 1048576 := of_decide_eq_true hkk
  have hm0 := bulk_mem (l := [d0, d1, d2] ++ []) (d := d0) (by simp)
  have hm1 := bulk_mem (l := [d0, d1, d2] ++ []) (d := d1) (by simp)
  obtain ⟨a0, nm0, hK0, rfl, hrep0, hwt0⟩ := open_deep (d := .tc (.int .u8)) (bulk H) Try.underlying22 (by kernel_rfl) (by kernel_rfl) (hval 0 22 v0 rfl rfl) h0
  obtain ⟨a1, nm1, hK1, rfl, hrep1, hwt1⟩ := open_deep (d := .tc (.int .u8)) (bulk H) Try.underlying22 (by kernel_rfl) (by kernel_rfl) (hval 1 22 v1 rfl rfl) h1
  have hwt0' : a0.length + (a0.map (Dc.wt (.tc (.int .u8)))).sum + 1 ≤ 1048576 := Nat.le_trans hwt0 (Nat.le_trans hm0 hbk)
  have hwt1' : a1.length + (a1.map (Dc.wt (.tc (.int .u8)))).sum + 1 ≤ 1048576 := Nat.le_trans hwt1 (Nat.le_trans hm1 hbk)
  obtain ⟨a2, rfl, rfl, rfl, w2⟩ := open_int Try.underlying30 (hval 2 30 v2 rfl rfl) h2
  have ok2 := int_ok w2
  have hn : 0 ≤ a2 ∧ a2 < 18446744073709551616 := by
    have h2 : IntKind.u64.min ≤ a2 ∧ a2 ≤ IntKind.u64.max := ok2
    have e1 : IntKind.u64.min = 0 := by decide
    have e2 : IntKind.u64.max = 18446744073709551615 := by decide
    rw [e1, e2] at h2
    exact ⟨h2.1, Int.lt_of_le_of_lt h2.2 (by decide)⟩
  clear hA0 hval0
  simp only [List.append_nil] at hW'
  have hlt : ∀ x ∈ (p0 ++ p1), x.block < W.heap.size := fun x hx => by simpa using hW'.lt x (by simpa using hx)
  have hlaw := Go.Vx.Wx.wireWrites_law a0 a1 a2 (by omega) (by omega) hn
  let ρ : Rho := fun b => if b = 32 then some nm0 else if b = 33 then some nm1 else none
  have hρ0 : ρ 32 = some nm0 := rfl
  have hρ1 : ρ 33 = some nm1 := rfl
  refine (io_at (vs := [dvV nm0 [] a0.length, dvV nm1 [] a1.length, .int .u64 a2]) (k_veillaw10_WireWrites (w0 := W) 3000000) Try.func4 (x := ((a0, a1, a2), (), ())) (y := (true, ())) hlaw rfl (ρ := ρ) (fun b nm' hb => ?_) ?_ rfl (r := .bool true) (fun _ => rfl)).mono fun e W' ⟨he, hb⟩ => ?_
  · simp only [ρ] at hb
    split at hb
    · rename_i hb32
      obtain rfl := Option.some.inj hb
      subst hb32
      exact ⟨⟨by decide, by decide⟩, hK0⟩
    · split at hb
      · rename_i hb33
        obtain rfl := Option.some.inj hb
        subst hb33
        exact ⟨⟨by decide, by decide⟩, hK1⟩
      · cases hb
  · refine ⟨?_, ?_, ok2, trivial⟩
    · show OK Try.prog ρ (.dv 32 [] 5 (.tc (.int .u8)) a0)
      simp only [OK]
      exact ⟨nm0, nmL nm0, hρ0, rfl, by kernel_rfl, hrep0⟩
    · show OK Try.prog ρ (.dv 33 [] 5 (.tc (.int .u8)) a1)
      simp only [OK]
      exact ⟨nm1, nmL nm1, hρ1, rfl, by kernel_rfl, hrep1⟩
  subst he
  exact ⟨_, rfl, post_below (s := ((Rows.OpenSpec.upto Rows.wireWritesSpec).at F)) (pv := []) hW' (fun _ _ _ => (trodAll_cons_mk (shut_bool Try.underlying4 _) trodAll_mk0)) (trodAll_cons_mk (Below.trod (P := Try.prog) (by kernel_rfl) (by kernel_rfl) (of_decide_eq_true (by kernel_rfl)) h0 hb (fun x hx => hlt x (by simp [hx]))) (trodAll_cons_mk (Below.trod (P := Try.prog) (by kernel_rfl) (by kernel_rfl) (of_decide_eq_true (by kernel_rfl)) h1 hb (fun x hx => hlt x (by simp [hx]))) (trodAll_cons_mk (shut_int Try.underlying30 w2) trodAll_mk0))) rfl hb⟩

theorem over : Rows.wireWritesUptoRow.holds Try.pinned (Rows.OpenSpec.upto Rows.wireWritesSpec) :=
  OpenClaim.holds_of_cond 4 Try.f4 rfl rfl rfl rfl rfl rfl rfl ⟨rfl, rfl, rfl, rfl, rfl⟩ rfl rfl rfl rfl rfl (by kernel_rfl) Try.func4 (by kernel_rfl)
    (of_decide_eq_true (by kernel_rfl)) (by unfold Func.isWrapper; first | (rw [if_pos (by decide +kernel)]; kernel_rfl) | (rw [if_neg (by decide +kernel)]; exact ⟨rfl, rfl⟩))
    (fun os started H enc _ F => lifted os started H enc F)

theorem proved : Rows.WireWritesUptoSaid :=
  over
#print axioms proved
end Go.Proofs.Ytoionfdfofmplaa.wireWritesUpto
