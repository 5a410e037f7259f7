import Derived.Test.YtoionfdfofmplaaGreatDoorVxS6
import Derived.Test.YtoionfdfofmplaaGreatDoorGlob
import Derived.Test.YtoionfdfofmplaaGreatDoorVyMRd
import Derived.Test.YtoionfdfofmplaaGreatDoorFw
import Derived.Test.YtoionfdfofmplaaGreatDoorCards
import Derived.Test.YtoionfdfofmplaaGreatDoorTie
import Derived.SevenTiedAt
set_option linter.unusedVariables false
set_option linter.unusedSimpArgs false
namespace Go.Proofs.YtoionfdfofmplaaGreatDoor.wireReadsUpto
open Go.ChangeShapes Go.WideShapes Go.ChangeAt Go.RowKit Go.Vx
theorem own:ownKnob Tryz.prog.godebug=none:=by kernel_rfl
abbrev laid1:List (String×DataW Unit):=[("veil/veilref03.round",Rows.laid_veil_veilref03_round),("veil/veilref03.first",Rows.laid_veil_veilref03_first),("veil/field.table",Rows.laid_veil_field_table),("veil/scalar.table",Rows.laid_veil_scalar_table),("veil/curve.one",Rows.laid_veil_curve_one),("veil/veilref01.Zero",Rows.laid_veil_veilref01_Zero),("veil/veilref01.One",Rows.laid_veil_veilref01_One),("veil/veilref01.prime",Rows.laid_veil_veilref01_prime)]
theorem door_met (os:Os) (args:Array Value):laidMetH Tryz.prog laid1 ((World.doorLaid Tryz.prog 400 os).forCall (fun _ _=>0) ⟨#[],args,[]⟩).memory:=
  laidMetH_of_parts3 (fuel:=8) (laidMet_of_run' 8 (by kernel_rfl) (by kernel_rfl)) (by kernel_rfl) (by kernel_rfl)
theorem bulk_pos {H:Type} (d:DataW H):1≤Rows.uptoBulk d:=by
  cases d with
  |lit v=>cases v<;>simp[Rows.uptoBulk]
  |_=>simp[Rows.uptoBulk]
theorem bulk_mem {H:Type}:{l:List (DataW H)}→{d:DataW H}→d∈l→Rows.uptoBulk d≤Rows.uptoBulkAll l
  |_::_,_,.head _=>Nat.le_add_right _ _
  |_::_,_,.tail _ h=>Nat.le_trans (bulk_mem h) (Nat.le_add_left _ _)
def bulk (H:Type):Bulk H:=
  {B:=Rows.uptoBulk,A:=Rows.uptoBulkAll,pos:=bulk_pos,cons:=fun _ _=>Nat.le_refl _,slice:=fun e s=>by simp only[Rows.uptoBulk];omega,agg:=fun p=>by simp only[Rows.uptoBulk];omega}
set_option maxRecDepth 100000 in
theorem lifted (os:Os) (started:os.Started) (H:Type) (enc:TypeId×Value→H) (F:Stop.Interp):
    ReturnsInHanded {} Tryz.checked os 3 .any (fun w args=>((Rows.OpenSpec.upto Rows.wireReadsSpec).pre enc Tryz.prog Tryz.f3 [] false w args∧laidMetH Tryz.prog laid1 w)∧sizedMet enc Tryz.prog Tryz.f3 (Rows.OpenSpec.upto Rows.wireReadsSpec) false w args)
      (((Rows.OpenSpec.upto Rows.wireReadsSpec).at F).post enc Tryz.prog Tryz.f3 false true false false):=by
  refine ZnZ (k:=Rows.uptoSmall) rfl (F:=F) (C:=Tryz.checked) (X:=fun w _=>laidMetH Tryz.prog laid1 w) (fun _ _ _ hh h=>h.of_heap hh) own started (by kernel_rfl) Tryz.func3
    (ZCa (k:=Rows.uptoSmall) rfl (enc:=enc) (C:=Tryz.checked) (os:=os) (X:=fun w _=>laidMetH Tryz.prog laid1 w) false (World.doorLaid Tryz.prog 400 os) #[.slice none 0 0,.slice none 0 0] 8 rfl (World.shaped_of_RefB (by kernel_rfl) (by kernel_rfl)) (by kernel_rfl) (by kernel_rfl) (door_met os _)) ?_
  intro W base args ds gs before hval0 hW _ hkk hL _
  have hval:∀ (j:Nat) t v,Tryz.f3.params[j]? =some t→args[j]? =some v→Value.okWide Tryz.prog W .any base t v:=hval0
  have hW':=hW
  obtain⟨p,q,hA0,hV,rfl,hfz,hnd⟩:=hW
  have hA:DataW.TrodAll enc Tryz.prog W 0 (fun _=>true) true Tryz.f3.params.toList args.toList ds p:=hA0
  rw[Tryz.params3] at hA hval
  obtain⟨v0,vs0,d0,ds0,p0,q0,hargs,rfl,rfl,h0,r0⟩:=trodAll_cons hA
  obtain⟨v1,vs1,d1,ds1,p1,q1,rfl,rfl,rfl,h1,r1⟩:=trodAll_cons r0
  obtain⟨rfl,rfl,rfl⟩:=trodAll_nil r1
  obtain rfl:args= #[v0,v1]:=by cases args;simp_all
  obtain⟨rfl,rfl⟩:=trodVars_none hV
  have hbk:Rows.uptoBulkAll ([d0,d1]++[])≤1048576:=of_decide_eq_true hkk
  obtain⟨a0,ns0,nk0,nK0,nv0,wt0_⟩:=ZFN (p:=(.dvw 32 5 (.tc (.int .u8)))) (bulk H) (by simp only[DpTy,DgTy];exact⟨Tryz.underlying22,by kernel_rfl,by kernel_rfl,by kernel_rfl⟩) (hval 0 22 v0 rfl rfl) h0
  have wt0:=Nat.le_trans wt0_ (Nat.le_trans (bulk_mem (l:=[d0,d1]++[]) (d:=d0) (by simp)) hbk)
  obtain⟨a1,ns1,nk1,nK1,nv1,wt1_⟩:=ZFN (p:=(.dvw 33 32 (.tc (.agg (.cons (.int .i64) (.cons (.int .i64) (.int .i64))))))) (bulk H) (by simp only[DpTy,DgTy];exact⟨Tryz.underlying23,by kernel_rfl,by kernel_rfl,by kernel_rfl⟩) (hval 1 23 v1 rfl rfl) h1
  have wt1:=Nat.le_trans wt1_ (Nat.le_trans (bulk_mem (l:=[d0,d1]++[]) (d:=d1) (by simp)) hbk)
  rw[MakeChecks.laidMetH_plain _ _ _ (by kernel_rfl)] at hL
  obtain⟨ps,hL,_⟩:=hL
  obtain⟨g0,t0_,cs0,f0_,p0_,q0_,hg0,ht0,hv0,hd0,hl0,_⟩:=hL
  obtain⟨g1,t1_,cs1,f1_,p1_,q1_,hg1,ht1,hv1,hd1,hl1,_⟩:=hl0
  obtain⟨g2,t2_,cs2,f2_,p2_,q2_,hg2,ht2,hv2,hd2,hl2,_⟩:=hl1
  have hh2:=Zth hg2 ht2 hv2 hd2
  obtain⟨g3,t3_,cs3,f3_,p3_,q3_,hg3,ht3,hv3,hd3,hl3,_⟩:=hl2
  have hh3:=ZsX hg3 ht3 hv3 hd3
  obtain⟨g4,t4_,cs4,f4_,p4_,q4_,hg4,ht4,hv4,hd4,hl4,_⟩:=hl3
  have hh4:=ZHG hg4 ht4 hv4 hd4
  obtain⟨g5,t5_,cs5,f5_,p5_,q5_,hg5,ht5,hv5,hd5,hl5,_⟩:=hl4
  have hh5:=ZFO hg5 ht5 hv5 hd5
  obtain⟨g6,t6_,cs6,f6_,p6_,q6_,hg6,ht6,hv6,hd6,hl6,_⟩:=hl5
  have hh6:=ZHH hg6 ht6 hv6 hd6
  obtain⟨g7,t7_,cs7,f7_,p7_,q7_,hg7,ht7,hv7,hd7,hl7,_⟩:=hl6
  have hh7:=ZFa hg7 ht7 hv7 hd7
  clear hA0 hval0
  simp only[List.append_nil] at hW'
  have hlt:∀ x∈(p0++p1),x.block<W.heap.size:=fun x hx=>by simpa using hW'.lt x (by simpa using hx)
  let ρ:Rho:=rhoOf (ns0++ns1)
  have nk0':ns0.map (·.1)=[32]:=nk0
  have nk1':ns1.map (·.1)=[33]:=nk1
  have hnd:((ns0++ns1).map (·.1)).Nodup:=by simp only[List.map_append,nk0',nk1'];decide
  obtain⟨e0,ok0⟩:=nv0 ρ fun a ha=>Zzp _ hnd a (by simp[ha])
  obtain⟨e1,ok1⟩:=nv1 ρ fun a ha=>Zzp _ hnd a (by simp[ha])
  have hρ:∀ b nm,ρ b=some nm→(32≤b∧b<88)∧isKof W nm.K:=by
    intro b nm hb
    have hm:=Zzq _ hb
    simp only[List.mem_append] at hm
    have hk:b∈([32]++[33]:List Nat):=by
      have:=List.mem_map_of_mem (f:=(·.1)) (Zzq _ hb)
      simpa only[List.map_append,nk0',nk1'] using this
    refine⟨(by decide:∀ b∈([32,33]:List Nat),32≤b∧b<88) b (by simpa using hk),?_⟩
    rcases hm with h|h
    · exact nK0 _ h
    · exact nK1 _ h
  have oka:=ok0
  simp only[Pt.mk,OK] at oka
  obtain⟨_,_,-,-,-,ka,-⟩:=oka
  have okb:=ok1
  simp only[Pt.mk,OK] at okb
  obtain⟨_,_,-,-,-,kb,-⟩:=okb
  simp only[Pt.wt,Ag.wt,Dc.wt] at wt0 wt1
  have hcs:a1.length≤2000000:=by omega
  have hlaw:=Go.Vx.Rd.wireReads_law (N:=3000000) (by decide) rfl a0 a1 (fun x hx=>ZIR ka x hx) (by omega) (fun c hc=>(ZIR kb c hc).2.1.2) hcs
  refine(io_at (vs:=[v0,v1]) (Zti (w0:=W) 3000000 ⟨(Zcl hh7 (Zah _ _)),(Zcl hh5 (Zcl hh7 (Zah _ _))),(Zcl hh6 (Zah _ _)),(Zcl hh5 (Zah _ _)),(Zcl hh5 (Zah _ _)),(Zcl hh6 (Zcl hh5 (Zah _ _))),(Zcl hh6 (Zah _ _)),(Zcl hh3 (Zah _ _)),(Zcl hh3 (Zah _ _)),(Zcl hh2 (Zah _ _)),(Zcl hh2 (Zah _ _)),(Zcl hh4 (Zah _ _)),(Zcl hh4 (Zah _ _)),(Zcl hh4 (Zah _ _))⟩) Tryz.func3 (x:=((a0,a1),(),())) (y:=(true,())) hlaw rfl (ρ:=ρ) hρ ⟨ok0,⟨ok1,trivial⟩⟩ (by show [den _ ρ (Pt.mk (.dvw 32 5 (.tc (.int .u8))) a0),den _ ρ (Pt.mk (.dvw 33 32 (.tc (.agg (.cons (.int .i64) (.cons (.int .i64) (.int .i64)))))) a1)]=[v0,v1];rw[← e0,← e1]) (r:=.bool true) (fun _=>rfl)).mono fun e W' ⟨he,hb⟩=>?_
  subst he
  exact⟨_,rfl,ZFb (s:=((Rows.OpenSpec.upto Rows.wireReadsSpec).at F)) (pv:=[]) hW' (fun _ _ _=>(trodAll_cons_mk (shut_bool Tryz.underlying4 _) trodAll_mk0)) (trodAll_cons_mk (Below.trod (P:=Tryz.prog) (by kernel_rfl) (by kernel_rfl) (of_decide_eq_true (by kernel_rfl)) h0 hb (fun x hx=>hlt x (by simp[hx]))) (trodAll_cons_mk (Below.trod (P:=Tryz.prog) (by kernel_rfl) (by kernel_rfl) (of_decide_eq_true (by kernel_rfl)) h1 hb (fun x hx=>hlt x (by simp[hx]))) trodAll_mk0)) rfl hb⟩
theorem over:Rows.WireReadsUptoSaid:=
  OpenClaim.holds_of_cond 3 Tryz.f3 rfl rfl rfl rfl rfl rfl rfl ⟨rfl,rfl,rfl,rfl,rfl⟩ rfl rfl rfl rfl rfl (by kernel_rfl) Tryz.func3 (by kernel_rfl)
    (of_decide_eq_true (by kernel_rfl)) (by unfold Func.isWrapper;first|(rw[if_pos (by decide+kernel)];kernel_rfl)|(rw[if_neg (by decide+kernel)];exact⟨rfl,rfl⟩))
    (fun os started H enc _ F=>lifted os started H enc F)
theorem proved:Rows.WireReadsUptoCardSaid:=
  Claim7.holds_tied_plain_at .later [] [.data,.data,.data,.data,.wider,.data,.wider,.data] true (true,"fe338f92069ee7febe15851dad85eb098830fdcc7fbcd1d9565de56d81abd617") false
    over (fun _ h=>by cases h) (by kernel_rfl) (fun _ h=>by cases h) wireReadsUpto_row_tie rfl ⟨rfl,rfl⟩ (by kernel_rfl) rfl
    (fun f fn hf hfn=>by
      obtain rfl:f=3:=Option.some.inj ((show Tryz.prog.funcNamed "veil/veillaw10.WireReads" =some 3 by kernel_rfl).symm.trans hf) |>.symm
      obtain rfl:fn=Tryz.f3:=(Option.some.inj (Tryz.func3.symm.trans hfn)).symm
      exact⟨by kernel_rfl,fun j t ht=>by
        rw[Tryz.params3] at ht
        have hm:=List.mem_of_getElem? (l:=[22,23]) (i:=j) (a:=t) (by simpa using ht)
        have hall:([22,23].all fun u=> !Tryz.prog.wantsStandIn u)=true:=by kernel_rfl
        exact(show Tryz.prog.wantsStandIn t=false by simpa using List.all_eq_true.1 hall t hm)⟩)
    (by kernel_rfl)
#print axioms proved
end Go.Proofs.YtoionfdfofmplaaGreatDoor.wireReadsUpto
