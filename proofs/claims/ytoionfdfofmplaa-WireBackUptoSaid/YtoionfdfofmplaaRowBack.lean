import Derived.Test.YtoionfdfofmplaaVxS5
import Derived.Test.YtoionfdfofmplaaFw
import Derived.Test.YtoionfdfofmplaaBack
import Derived.Test.YtoionfdfofmplaaRows
namespace Go.Proofs.Ytoionfdfofmplaa.wireBackUpto
open Go.ChangeShapes Go.WideShapes Go.ChangeAt Go.RowKit Go.Vx
set_option linter.unusedVariables false

theorem own : ownKnob Try.prog.godebug = none := by kernel_rfl

theorem bulk_pos {H : Type} (d : DataW H) : 1 ≤ Rows.uptoBulk d := by
  cases d with
  | lit v => cases v <;> simp [Rows.uptoBulk]
  | _ => simp [Rows.uptoBulk]
theorem bulk_mem {H : Type} : {l : List (DataW H)} → {d : DataW H} → d ∈ l → Rows.uptoBulk d ≤ Rows.uptoBulkAll l
  | _ :: _, _, .head _ => Nat.le_add_right _ _
  | _ :: _, _, .tail _ h => Nat.le_trans (bulk_mem h) (Nat.le_add_left _ _)
def bulk (H : Type) : Bulk H :=
  { B := Rows.uptoBulk, A := Rows.uptoBulkAll, pos := bulk_pos, cons := fun _ _ => Nat.le_refl _, slice := fun e s => by simp only [Rows.uptoBulk]; omega, agg := fun p => by simp only [Rows.uptoBulk]; omega }

abbrev dTh : Dc := .agg (.cons (.tc .bool) (.cons (.tc (.int .u64)) (.row (.tc (.int .u8)) 5)))

theorem sz_wt : (l : List Go.Vx.Wx.Th) → Go.Vx.Wx.szT l ≤ 10 * (l.length + (l.map (Dc.wt dTh)).sum)
  | [] => Nat.zero_le _
  | a :: l => by
    have h := sz_wt l
    have e : Dc.wt dTh a = 0 + (0 + (a.2.2.length + (a.2.2.map (Dc.wt (.tc (.int .u8)))).sum)) := rfl
    simp only [Go.Vx.Wx.szT, List.length_cons, List.map_cons, List.sum_cons]
    rw [e]
    omega

set_option maxRecDepth 100000 in
theorem lifted (os : Os) (started : os.Started) (H : Type) (enc : TypeId × Value → H) (F : Stop.Interp) :
    ReturnsInHanded {} Try.checked os 5 .any ((Rows.OpenSpec.upto Rows.wireBackSpec).pre6 enc Try.prog Try.f5 [] false) (((Rows.OpenSpec.upto Rows.wireBackSpec).at F).post enc Try.prog Try.f5 false true false false) := by
  refine returnsInHanded_of_cond (C := Try.checked) (k := Rows.uptoSmall) rfl (F := F) own started (by kernel_rfl) Try.func5
    (witness_upto (enc := enc) (C := Try.checked) (os := os) (k := Rows.uptoSmall) rfl false ⟨#[], #[.slice none 0 0, .int .i64 0], []⟩ 8 (by kernel_rfl) (by kernel_rfl) (by kernel_rfl) (by kernel_rfl) (by kernel_rfl)) ?_
  intro W base args ds gs before hval0 hW _ hkk _
  have hval : ∀ (j : Nat) t v, Try.f5.params[j]? = some t → args[j]? = some v → Value.okWide Try.prog W .any base t v := hval0
  have hW' := hW
  obtain ⟨p, q, hA0, hV, rfl, hfz, hnd⟩ := hW
  have hA : DataW.TrodAll enc Try.prog W 0 (fun _ => true) true Try.f5.params.toList args.toList ds p := hA0
  rw [Try.params5] at hA hval
  obtain ⟨v0, vs0, d0, ds0, p0, q0, hargs, rfl, rfl, h0, r0⟩ := trodAll_cons hA
  obtain ⟨v1, vs1, d1, ds1, p1, q1, rfl, rfl, rfl, h1, r1⟩ := trodAll_cons r0
  obtain ⟨rfl, rfl, rfl⟩ := trodAll_nil r1
  obtain rfl : args = #[v0, v1] := by cases args; simp_all
  obtain ⟨rfl, rfl⟩ := trodVars_none hV
  have hbk : Rows.uptoBulkAll ([d0, d1] ++ []) ≤ 1048576 := of_decide_eq_true hkk
  have hm0 := bulk_mem (l := [d0, d1] ++ []) (d := d0) (by simp)
  obtain ⟨a0, nm, hK, rfl, hrep, hwt⟩ := open_deep (d := dTh) (bulk H) Try.underlying35 (by kernel_rfl) (by kernel_rfl) (hval 0 35 v0 rfl rfl) h0
  have hwt' : a0.length + (a0.map (Dc.wt dTh)).sum + 1 ≤ 1048576 := Nat.le_trans hwt (Nat.le_trans hm0 hbk)
  have hnum : ∀ a ∈ a0, 0 ≤ a.2.1 ∧ a.2.1 < 18446744073709551616 := by
    intro a ha
    obtain ⟨i, hi, rfl⟩ := List.getElem_of_mem ha
    obtain ⟨b', o', -, hd⟩ := hrep.2.2.2 i _ (List.getElem?_eq_getElem hi)
    have h2 : IntKind.u64.min ≤ (a0[i]).2.1 ∧ (a0[i]).2.1 ≤ IntKind.u64.max := hd.2.1.1
    have e1 : IntKind.u64.min = 0 := by decide
    have e2 : IntKind.u64.max = 18446744073709551615 := by decide
    rw [e1, e2] at h2
    exact ⟨h2.1, Int.lt_of_le_of_lt h2.2 (by decide)⟩
  obtain ⟨a1, rfl, rfl, rfl, w1⟩ := open_int Try.underlying3 (hval 1 3 v1 rfl rfl) h1
  have ok1 := int_ok w1
  clear hA0 hval0
  simp only [List.append_nil] at hW'
  have hlt : ∀ x ∈ (p0), x.block < W.heap.size := fun x hx => by simpa using hW'.lt x (by simpa using hx)
  have hlaw := Go.Vx.Wx.wireBack_law a0 a1 hnum (by omega) (by have := sz_wt a0; omega)
  let ρ : Rho := fun b => if b = 32 then some nm else none
  have hρ : ρ 32 = some nm := rfl
  refine (io_at (vs := [dvV nm [] a0.length, .int .i64 a1]) (k_veillaw10_WireBack (w0 := W) 3000000) Try.func5 (x := ((a0, a1), (), ())) (y := (true, ())) hlaw rfl (ρ := ρ) (fun b nm' hb => ?_) ?_ rfl (r := .bool true) (fun _ => rfl)).mono fun e W' ⟨he, hb⟩ => ?_
  · simp only [ρ] at hb
    split at hb
    · rename_i hb32
      obtain rfl := Option.some.inj hb
      subst hb32
      exact ⟨⟨by decide, by decide⟩, hK⟩
    · cases hb
  · refine ⟨?_, ok1, trivial⟩
    show OK Try.prog ρ (.dv 32 [] 38 dTh a0)
    simp only [OK]
    exact ⟨nm, nmL nm, hρ, rfl, by kernel_rfl, hrep⟩
  subst he
  exact ⟨_, rfl, post_below (s := ((Rows.OpenSpec.upto Rows.wireBackSpec).at F)) (pv := []) hW' (fun _ _ _ => (trodAll_cons_mk (shut_bool Try.underlying4 _) trodAll_mk0)) (trodAll_cons_mk (Below.trod (P := Try.prog) (by kernel_rfl) (by kernel_rfl) (of_decide_eq_true (by kernel_rfl)) h0 hb (fun x hx => hlt x (by simp [hx]))) (trodAll_cons_mk (shut_int Try.underlying3 w1) trodAll_mk0)) rfl hb⟩

theorem over : Rows.wireBackUptoRow.holds Try.pinned (Rows.OpenSpec.upto Rows.wireBackSpec) :=
  OpenClaim.holds_of_cond 5 Try.f5 rfl rfl rfl rfl rfl rfl rfl ⟨rfl, rfl, rfl, rfl, rfl⟩ rfl rfl rfl rfl rfl (by kernel_rfl) Try.func5 (by kernel_rfl)
    (of_decide_eq_true (by kernel_rfl)) (by unfold Func.isWrapper; first | (rw [if_pos (by decide +kernel)]; kernel_rfl) | (rw [if_neg (by decide +kernel)]; exact ⟨rfl, rfl⟩))
    (fun os started H enc _ F => lifted os started H enc F)

theorem proved : Rows.WireBackUptoSaid :=
  over
#print axioms proved
end Go.Proofs.Ytoionfdfofmplaa.wireBackUpto
