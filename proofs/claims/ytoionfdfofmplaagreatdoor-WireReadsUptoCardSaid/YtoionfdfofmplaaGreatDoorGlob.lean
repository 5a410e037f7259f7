import Derived.Test.YtoionfdfofmplaaGreatDoorFw
import Derived.Test.YtoionfdfofmplaaGreatDoorRows
import Derived.Test.YtoionfdfofmplaaGreatDoorVxT
set_option linter.unusedVariables false
namespace Go.Vx
open Go Go.Proofs Go.RowKit
theorem flat44:FlatAt Tryz.prog 44:=ZE6 Tryz.underlying44 (by kernel_rfl)
theorem flat86:FlatAt Tryz.prog 86:=Zxr Tryz.underlying86 (by kernel_rfl) flat44
theorem flat170:FlatAt Tryz.prog 170:=Zxr Tryz.underlying170 (by kernel_rfl) flat86
theorem flat50:FlatAt Tryz.prog 50:=Zxr Tryz.underlying50 (by kernel_rfl) flat44
theorem flat189:FlatAt Tryz.prog 189:=Zxr Tryz.underlying189 (by kernel_rfl) flat50
theorem flat2:FlatAt Tryz.prog 2:=ZE6 Tryz.underlying2 (by kernel_rfl)
theorem flat65:FlatAt Tryz.prog 65:=Zxr Tryz.underlying65 (by kernel_rfl) flat2
theorem ZuR:Has Tryz.prog (.rows 7 fun i=>.ints .u64 5 (ZcA i)) 170:=⟨86,Tryz.underlying170,fun i=>⟨44,Tryz.underlying86,Tryz.underlying44,by kernel_rfl,by kernel_rfl⟩,by kernel_rfl⟩
theorem ZuS(i:Nat):(ZcA i).length=5∧∀ x∈ZcA i,IntKind.u64.min≤x∧x≤IntKind.u64.max:=by
 match i with
 |0=>exact⟨rfl,by decide⟩
 |1=>exact⟨rfl,by decide⟩
 |2=>exact⟨rfl,by decide⟩
 |3=>exact⟨rfl,by decide⟩
 |4=>exact⟨rfl,by decide⟩
 |5=>exact⟨rfl,by decide⟩
 |6=>exact⟨rfl,by decide⟩
 |n+7=>exact⟨rfl,by
   show ∀ x∈([0,0,0,0,0]:LI),_
   decide⟩
theorem Zv9:OK Tryz.prog (fun _=>none) (.rows 7 fun i=>.ints .u64 5 (ZcA i)):=by
 simp only[OK];exact fun i=>ZuS i
theorem Zth{W:World}{g':Nat}{t':TypeId}{cs:Array Value}{fuel:Nat}{enc:TypeId×Value→Unit}{base:Nat}{sp:Nat→Bool}{held:Bool}{p:List MemPlace}
  (hg':Tryz.prog.globalNamed "veil/field.table" =some g') (ht':(Tryz.prog.globals[g']?).map (·.type)=some t') (hv:W.var? Tryz.prog "veil/field.table" =some cs)
  (hd:DataW.trod enc Tryz.prog W base sp held fuel t' cs.toList=some (YtoionfdfofmplaaGreatDoor.Rows.laid_veil_field_table,p)):GlobOne Tryz.prog W ⟨0,170,(.rows 7 fun i=>.ints .u64 5 (ZcA i))⟩:=
 Zyu (by kernel_rfl:Tryz.prog.globalNamed "veil/field.table" =some 0) hg' (by kernel_rfl:(Tryz.prog.globals[0]?).map (·.type)=some 170) ht' hv hd flat170 (by kernel_rfl) (by simp[YtoionfdfofmplaaGreatDoor.Rows.laid_veil_field_table,flatD,flatL]) ZuR Zv9
theorem Zug:Has Tryz.prog (.agg [(.ints .u64 4 [6346243789798364141,1503914060200516822,0,1152921504606846976]),(.ints .u64 4 [15486807595281847581,14334777244411350896,18446744073709551614,1152921504606846975]),(.ints .u64 4 [11819153939886771969,14991950615390032711,14910419812499177061,259310039853996605]),(.ints .u64 4 [6346243789798364139,1503914060200516822,0,1152921504606846976])]) 189:=ZcF _ _ _ (by kernel_rfl)
theorem ZuT:OK Tryz.prog (fun _=>none) (.agg [(.ints .u64 4 [6346243789798364141,1503914060200516822,0,1152921504606846976]),(.ints .u64 4 [15486807595281847581,14334777244411350896,18446744073709551614,1152921504606846975]),(.ints .u64 4 [11819153939886771969,14991950615390032711,14910419812499177061,259310039853996605]),(.ints .u64 4 [6346243789798364139,1503914060200516822,0,1152921504606846976])]):=⟨⟨rfl,by decide⟩,⟨rfl,by decide⟩,⟨rfl,by decide⟩,⟨rfl,by decide⟩,trivial⟩
theorem ZsX{W:World}{g':Nat}{t':TypeId}{cs:Array Value}{fuel:Nat}{enc:TypeId×Value→Unit}{base:Nat}{sp:Nat→Bool}{held:Bool}{p:List MemPlace}
  (hg':Tryz.prog.globalNamed "veil/scalar.table" =some g') (ht':(Tryz.prog.globals[g']?).map (·.type)=some t') (hv:W.var? Tryz.prog "veil/scalar.table" =some cs)
  (hd:DataW.trod enc Tryz.prog W base sp held fuel t' cs.toList=some (YtoionfdfofmplaaGreatDoor.Rows.laid_veil_scalar_table,p)):GlobOne Tryz.prog W ⟨2,189,(.agg [(.ints .u64 4 [6346243789798364141,1503914060200516822,0,1152921504606846976]),(.ints .u64 4 [15486807595281847581,14334777244411350896,18446744073709551614,1152921504606846975]),(.ints .u64 4 [11819153939886771969,14991950615390032711,14910419812499177061,259310039853996605]),(.ints .u64 4 [6346243789798364139,1503914060200516822,0,1152921504606846976])])⟩:=
 Zyu (by kernel_rfl:Tryz.prog.globalNamed "veil/scalar.table" =some 2) hg' (by kernel_rfl:(Tryz.prog.globals[2]?).map (·.type)=some 189) ht' hv hd flat189 (by kernel_rfl) (by simp[YtoionfdfofmplaaGreatDoor.Rows.laid_veil_scalar_table,flatD,flatL]) Zug ZuT
theorem has_one:Has Tryz.prog (.ints .u64 5 [1,0,0,0,0]) 86:=ZcF _ _ _ (by kernel_rfl)
theorem ok_one:OK Tryz.prog (fun _=>none) (.ints .u64 5 [1,0,0,0,0]):=⟨rfl,by decide⟩
theorem ZHG{W:World}{g':Nat}{t':TypeId}{cs:Array Value}{fuel:Nat}{enc:TypeId×Value→Unit}{base:Nat}{sp:Nat→Bool}{held:Bool}{p:List MemPlace}
  (hg':Tryz.prog.globalNamed "veil/curve.one" =some g') (ht':(Tryz.prog.globals[g']?).map (·.type)=some t') (hv:W.var? Tryz.prog "veil/curve.one" =some cs)
  (hd:DataW.trod enc Tryz.prog W base sp held fuel t' cs.toList=some (YtoionfdfofmplaaGreatDoor.Rows.laid_veil_curve_one,p)):GlobOne Tryz.prog W ⟨3,86,(.ints .u64 5 [1,0,0,0,0])⟩:=
 Zyu (by kernel_rfl:Tryz.prog.globalNamed "veil/curve.one" =some 3) hg' (by kernel_rfl:(Tryz.prog.globals[3]?).map (·.type)=some 86) ht' hv hd flat86 (by kernel_rfl) (by simp[YtoionfdfofmplaaGreatDoor.Rows.laid_veil_curve_one,flatD,flatL]) has_one ok_one
theorem ZIO:Has Tryz.prog (.ints .i64 10 [0,0,0,0,0,0,0,0,0,0]) 65:=ZcF _ _ _ (by kernel_rfl)
theorem ok_Zero:OK Tryz.prog (fun _=>none) (.ints .i64 10 [0,0,0,0,0,0,0,0,0,0]):=⟨rfl,by decide⟩
theorem ZFO{W:World}{g':Nat}{t':TypeId}{cs:Array Value}{fuel:Nat}{enc:TypeId×Value→Unit}{base:Nat}{sp:Nat→Bool}{held:Bool}{p:List MemPlace}
  (hg':Tryz.prog.globalNamed "veil/veilref01.Zero" =some g') (ht':(Tryz.prog.globals[g']?).map (·.type)=some t') (hv:W.var? Tryz.prog "veil/veilref01.Zero" =some cs)
  (hd:DataW.trod enc Tryz.prog W base sp held fuel t' cs.toList=some (YtoionfdfofmplaaGreatDoor.Rows.laid_veil_veilref01_Zero,p)):GlobOne Tryz.prog W ⟨4,65,(.ints .i64 10 [0,0,0,0,0,0,0,0,0,0])⟩:=
 Zyu (by kernel_rfl:Tryz.prog.globalNamed "veil/veilref01.Zero" =some 4) hg' (by kernel_rfl:(Tryz.prog.globals[4]?).map (·.type)=some 65) ht' hv hd flat65 (by kernel_rfl) (by simp[YtoionfdfofmplaaGreatDoor.Rows.laid_veil_veilref01_Zero,flatD,flatL]) ZIO ok_Zero
theorem has_One:Has Tryz.prog (.ints .i64 10 [1,0,0,0,0,0,0,0,0,0]) 65:=ZcF _ _ _ (by kernel_rfl)
theorem ok_One:OK Tryz.prog (fun _=>none) (.ints .i64 10 [1,0,0,0,0,0,0,0,0,0]):=⟨rfl,by decide⟩
theorem ZHH{W:World}{g':Nat}{t':TypeId}{cs:Array Value}{fuel:Nat}{enc:TypeId×Value→Unit}{base:Nat}{sp:Nat→Bool}{held:Bool}{p:List MemPlace}
  (hg':Tryz.prog.globalNamed "veil/veilref01.One" =some g') (ht':(Tryz.prog.globals[g']?).map (·.type)=some t') (hv:W.var? Tryz.prog "veil/veilref01.One" =some cs)
  (hd:DataW.trod enc Tryz.prog W base sp held fuel t' cs.toList=some (YtoionfdfofmplaaGreatDoor.Rows.laid_veil_veilref01_One,p)):GlobOne Tryz.prog W ⟨1,65,(.ints .i64 10 [1,0,0,0,0,0,0,0,0,0])⟩:=
 Zyu (by kernel_rfl:Tryz.prog.globalNamed "veil/veilref01.One" =some 1) hg' (by kernel_rfl:(Tryz.prog.globals[1]?).map (·.type)=some 65) ht' hv hd flat65 (by kernel_rfl) (by simp[YtoionfdfofmplaaGreatDoor.Rows.laid_veil_veilref01_One,flatD,flatL]) has_One ok_One
theorem ZHE:Has Tryz.prog (.ints .i64 10 [67108845,67108863,67108863,67108863,67108863,67108863,67108863,67108863,67108863,2097151]) 65:=ZcF _ _ _ (by kernel_rfl)
theorem ZIP:OK Tryz.prog (fun _=>none) (.ints .i64 10 [67108845,67108863,67108863,67108863,67108863,67108863,67108863,67108863,67108863,2097151]):=⟨rfl,by decide⟩
theorem ZFa{W:World}{g':Nat}{t':TypeId}{cs:Array Value}{fuel:Nat}{enc:TypeId×Value→Unit}{base:Nat}{sp:Nat→Bool}{held:Bool}{p:List MemPlace}
  (hg':Tryz.prog.globalNamed "veil/veilref01.prime" =some g') (ht':(Tryz.prog.globals[g']?).map (·.type)=some t') (hv:W.var? Tryz.prog "veil/veilref01.prime" =some cs)
  (hd:DataW.trod enc Tryz.prog W base sp held fuel t' cs.toList=some (YtoionfdfofmplaaGreatDoor.Rows.laid_veil_veilref01_prime,p)):GlobOne Tryz.prog W ⟨6,65,(.ints .i64 10 [67108845,67108863,67108863,67108863,67108863,67108863,67108863,67108863,67108863,2097151])⟩:=
 Zyu (by kernel_rfl:Tryz.prog.globalNamed "veil/veilref01.prime" =some 6) hg' (by kernel_rfl:(Tryz.prog.globals[6]?).map (·.type)=some 65) ht' hv hd flat65 (by kernel_rfl) (by simp[YtoionfdfofmplaaGreatDoor.Rows.laid_veil_veilref01_prime,flatD,flatL]) ZHE ZIP
end Go.Vx
