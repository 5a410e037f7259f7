import Derived.Test.YtoionfdfofmplaaVxS4
import Derived.Test.YtoionfdfofmplaaFw
import Derived.Test.YtoionfdfofmplaaOne
import Derived.Test.YtoionfdfofmplaaRows
namespace Go.Proofs.Ytoionfdfofmplaa.wireOneUpto
open Go.ChangeShapes Go.WideShapes Go.ChangeAt Go.RowKit Go.Vx
set_option linter.unusedVariables false

theorem own : ownKnob Try.prog.godebug = none := by kernel_rfl

theorem bulk_pos {H : Type} (d : DataW H) : 1 ≤ Rows.uptoBulk d := by
  cases d with
  | lit v => cases v <;> simp [Rows.uptoBulk]
  | _ => simp [Rows.uptoBulk]
theorem bulk_len {H : Type} : (l : List (DataW H)) → l.length ≤ Rows.uptoBulkAll l
  | [] => Nat.zero_le _
  | d :: l => by
    have h1 := bulk_len l
    have h2 := bulk_pos d
    simp only [Rows.uptoBulkAll, List.length_cons]
    omega
theorem bulk_mem {H : Type} : {l : List (DataW H)} → {d : DataW H} → d ∈ l → Rows.uptoBulk d ≤ Rows.uptoBulkAll l
  | _ :: _, _, .head _ => Nat.le_add_right _ _
  | _ :: _, _, .tail _ h => Nat.le_trans (bulk_mem h) (Nat.le_add_left _ _)

set_option maxRecDepth 100000 in
theorem lifted (os : Os) (started : os.Started) (H : Type) (enc : TypeId × Value → H) (F : Stop.Interp) :
    ReturnsInHanded {} Try.checked os 7 .any ((Rows.OpenSpec.upto Rows.wireOneSpec).pre6 enc Try.prog Try.f7 [] false) (((Rows.OpenSpec.upto Rows.wireOneSpec).at F).post enc Try.prog Try.f7 false true false false) := by
  refine returnsInHanded_of_cond (C := Try.checked) (k := Rows.uptoSmall) rfl (F := F) own started (by kernel_rfl) Try.func7
    (witness_upto (enc := enc) (C := Try.checked) (os := os) (k := Rows.uptoSmall) rfl false ⟨#[], #[.slice none 0 0], []⟩ 8 (by kernel_rfl) (by kernel_rfl) (by kernel_rfl) (by kernel_rfl) (by kernel_rfl)) ?_
  intro W base args ds gs before hval0 hW _ hkk _
  have hval : ∀ (j : Nat) t v, Try.f7.params[j]? = some t → args[j]? = some v → Value.okWide Try.prog W .any base t v := hval0
  have hW' := hW
  obtain ⟨p, q, hA0, hV, rfl, hfz, hnd⟩ := hW
  have hA : DataW.TrodAll enc Try.prog W 0 (fun _ => true) true Try.f7.params.toList args.toList ds p := hA0
  rw [Try.params7] at hA hval
  obtain ⟨v0, vs0, d0, ds0, p0, q0, hargs, rfl, rfl, h0, r0⟩ := trodAll_cons hA
  obtain ⟨rfl, rfl, rfl⟩ := trodAll_nil r0
  obtain rfl : args = #[v0] := by cases args; simp_all
  obtain ⟨rfl, rfl⟩ := trodVars_none hV
  have hbk : Rows.uptoBulkAll ([d0] ++ []) ≤ 1048576 := of_decide_eq_true hkk
  have hm0 := bulk_mem (l := [d0] ++ []) (d := d0) (by simp)
  obtain ⟨a0, sa0, ok0, hsl0⟩ := open_ints' (k := .u8) Try.underlying22 (by kernel_rfl) (hval 0 22 v0 rfl rfl) h0
  have len0 : a0.length ≤ 1048576 := by
    rcases hsl0 with ⟨rfl, rfl⟩ | ⟨es, sp, rfl, hl⟩
    · simp
    · have := bulk_len es
      simp only [Rows.uptoBulk] at hm0
      omega
  clear hA0 hval0
  simp only [List.append_nil] at hW'
  have hlt : ∀ x ∈ (p0), x.block < W.heap.size := fun x hx => by simpa using hW'.lt x (by simpa using hx)
  refine (calls_at (vs := [v0]) Try.func7 (by kernel_rfl) (by kernel_rfl) (k_veillaw10_WireOne (w0 := W) 3000000) (x := ((a0.length, a0), ())) (y := true) rfl (Go.Vx.Wx.wireOne_law a0 ok0 len0) ⟨⟨⟨rfl, ok0⟩, trivial, trivial⟩, trivial⟩ ⟨sa0, trivial⟩).mono fun e W' ⟨he, hb⟩ => ?_
  subst he
  exact ⟨_, rfl, post_below (s := ((Rows.OpenSpec.upto Rows.wireOneSpec).at F)) (pv := []) hW' (fun _ _ _ => (trodAll_cons_mk (shut_bool Try.underlying4 _) trodAll_mk0)) (trodAll_cons_mk (Below.trod (P := Try.prog) (by kernel_rfl) (by kernel_rfl) (of_decide_eq_true (by kernel_rfl)) h0 hb (fun x hx => hlt x (by simp [hx]))) trodAll_mk0) rfl hb⟩

theorem over : Rows.wireOneUptoRow.holds Try.pinned (Rows.OpenSpec.upto Rows.wireOneSpec) :=
  OpenClaim.holds_of_cond 7 Try.f7 rfl rfl rfl rfl rfl rfl rfl ⟨rfl, rfl, rfl, rfl, rfl⟩ rfl rfl rfl rfl rfl (by kernel_rfl) Try.func7 (by kernel_rfl)
    (of_decide_eq_true (by kernel_rfl)) (by unfold Func.isWrapper; first | (rw [if_pos (by decide +kernel)]; kernel_rfl) | (rw [if_neg (by decide +kernel)]; exact ⟨rfl, rfl⟩))
    (fun os started H enc _ F => lifted os started H enc F)

theorem proved : Rows.WireOneUptoSaid :=
  over
#print axioms proved
end Go.Proofs.Ytoionfdfofmplaa.wireOneUpto
