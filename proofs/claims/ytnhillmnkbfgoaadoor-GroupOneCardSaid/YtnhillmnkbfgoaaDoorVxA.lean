/- The engine, part A: abstract values, what they stand for in the model, and how they lie in memory. No program in sight. -/
import Derived.WalkKit
import Derived.Below
import Derived.Laws.IdiomCopy
set_option autoImplicit false
namespace Go.Vx
open Go

/-- An abstract value. Blocks are known by names (numbers); a pointer bears the path into its block and the type that it points at. -/
inductive AV where
  | int (k : IntKind) (n : Int)
  | bool (b : Bool)
  | str (s : ByteArray)
  | ptr (b : Nat) (p : List Nat) (t : TypeId)
  | nilp
  | sl (b : Nat) (p : List Nat) (off len cap : Nat) (t : TypeId)
  | pa (b : Nat) (p : List Nat) (off n : Nat) (t : TypeId)
  | nils
  | gs (b n : Nat) (t : TypeId)
  | clo (f : FuncId) (caps : List AV)
  | nilfn
  | nilif
  | ifc (t : TypeId) (v : AV)
  | ints (k : IntKind) (n : Nat) (l : List Int)
  | agg (l : List AV)
  | rows (n : Nat) (f : Nat → AV)
  | tup (l : List AV)

/-- What a name stands for: a stretch of a block: where it begins, how many elements it has, of which type, and whether it is a row of them or one variable. -/
structure Nm where
  blk : Nat
  off : Nat
  cap : Nat
  ty : TypeId
  row : Bool
  tot : Nat
  non : Bool

/-- The slice that is all of a row; how many elements could lie there; 'non': nil. -/
def gsV (nm : Nm) (n : Nat) : Value := bif nm.non then .slice none 0 0 else .slice (some ⟨nm.blk, nm.off, none⟩) n nm.tot

def stepT (P : Program) (t : TypeId) (i : Nat) : Option (Nat × TypeId) :=
  match P.underlying t with
  | some (.struct fs) => match fs[i]? with | some f => some (f.offset, f.type) | none => none
  | some (.array n e) => if i < n then some (i * P.cellsOf e, e) else none
  | _ => none

def pathT (P : Program) : TypeId → List Nat → Option (Nat × TypeId)
  | t, [] => some (0, t)
  | t, i :: p => match stepT P t i with
    | some (o, e) => match pathT P e p with
      | some (o', u) => some (o + o', u)
      | none => none
    | none => none

/-- The place (in cells, from the stretch's begin) and the type behind a path. -/
def pathN (P : Program) (nm : Nm) (p : List Nat) : Option (Nat × TypeId) :=
  if nm.row then
    match p with
    | [] => none
    | i :: q => if i < nm.cap then (match pathT P nm.ty q with | some (o, u) => some (i * P.cellsOf nm.ty + o, u) | none => none) else none
  else pathT P nm.ty p

/-- Where the elements of a slice begin, how many there are behind it, their type. -/
def baseN (P : Program) (nm : Nm) (p : List Nat) : Option (Nat × Nat × TypeId) :=
  if nm.row then (match p with
    | [] => some (0, nm.cap, nm.ty)
    | i :: q => if i < nm.cap then (match pathT P nm.ty q with
      | some (o, u) => (match P.underlying u with | some (.array n e) => some (i * P.cellsOf nm.ty + o, n, e) | _ => none)
      | none => none) else none)
  else match pathT P nm.ty p with
    | some (o, u) => (match P.underlying u with | some (.array n e) => some (o, n, e) | _ => none)
    | none => none

/-- What the names stand for; none: a name that is not in use. -/
abbrev Rho := Nat → Option Nm

mutual
def den (P : Program) (ρ : Rho) : AV → Value
  | .int k n => .int k n
  | .bool b => .bool b
  | .str s => .string s
  | .ptr b p _ => match ρ b with
    | some nm => .pointer (some ⟨nm.blk, nm.off + ((pathN P nm p).map (·.1)).getD 0, none⟩)
    | none => .pointer none
  | .nilp => .pointer none
  | .sl b p off len cap t => match ρ b with
    | some nm => .slice (some ⟨nm.blk, nm.off + (((baseN P nm p).map (·.1)).getD 0 + off * P.cellsOf t), none⟩) len cap
    | none => .slice none 0 0
  | .pa b p off _ t => match ρ b with
    | some nm => .pointer (some ⟨nm.blk, nm.off + (((baseN P nm p).map (·.1)).getD 0 + off * P.cellsOf t), none⟩)
    | none => .pointer none
  | .nils => .slice none 0 0
  | .gs b n _ => match ρ b with
    | some nm => gsV nm n
    | none => .slice none 0 0
  | .clo f caps => .func (.func f) #[] (denT P ρ caps).toArray
  | .nilfn => .nilFunc
  | .nilif => .nilIface
  | .ifc t v => .iface t (den P ρ v)
  | .ints k _ l => .agg (l.map (Value.int k)).toArray
  | .agg l => .agg (denC P ρ l).toArray
  | .rows n f => .agg ((List.range n).flatMap fun i => (den P ρ (f i)).cells.toList).toArray
  | .tup l => .tuple (denT P ρ l).toArray
def denC (P : Program) (ρ : Rho) : List AV → List Value
  | [] => []
  | v :: l => (den P ρ v).cells.toList ++ denC P ρ l
def denT (P : Program) (ρ : Rho) : List AV → List Value
  | [] => []
  | v :: l => den P ρ v :: denT P ρ l
end

def cells (P : Program) (ρ : Rho) (v : AV) : List Value := (den P ρ v).cells.toList

mutual
/-- Numbers lie in their kinds, rows have their lengths, paths lead somewhere. -/
def OK (P : Program) (ρ : Rho) : AV → Prop
  | .int k n => k.min ≤ n ∧ n ≤ k.max
  | .str s => (s.size : Int) ≤ 9223372036854775807
  | .ptr b p t => ∃ nm o, ρ b = some nm ∧ pathN P nm p = some (o, t)
  | .sl b p off len cap t => ∃ nm o n, ρ b = some nm ∧ baseN P nm p = some (o, n, t) ∧ off + cap ≤ n ∧ len ≤ cap ∧ (cap : Int) ≤ 9223372036854775807
  | .pa b p off n t => ∃ nm o m, ρ b = some nm ∧ baseN P nm p = some (o, m, t) ∧ off + n ≤ m
  | .gs b n t => ∃ nm, ρ b = some nm ∧ nm.row = true ∧ nm.ty = t ∧ n = nm.cap ∧ n ≤ nm.tot ∧ (nm.non = true → n = 0) ∧ (nm.tot : Int) ≤ 9223372036854775807
  | .clo _ l => OKL P ρ l
  | .ifc _ v => OK P ρ v
  | .ints k n l => l.length = n ∧ ∀ x ∈ l, k.min ≤ x ∧ x ≤ k.max
  | .agg l => OKL P ρ l
  | .rows _ f => ∀ i, OK P ρ (f i)
  | .tup l => OKL P ρ l
  | _ => True
def OKL (P : Program) (ρ : Rho) : List AV → Prop
  | [] => True
  | v :: l => OK P ρ v ∧ OKL P ρ l
end

mutual
/-- The value has the form of that type. -/
def Has (P : Program) : AV → TypeId → Prop
  | .int k _, t => P.underlying t = some (.int k) ∧ P.cellsOf t = 1
  | .bool _, t => P.underlying t = some .bool ∧ P.cellsOf t = 1
  | .str _, t => P.underlying t = some .string ∧ P.cellsOf t = 1
  | .ptr _ _ _, t => (∃ e, P.underlying t = some (.pointer e)) ∧ P.cellsOf t = 1
  | .nilp, t => (∃ e, P.underlying t = some (.pointer e)) ∧ P.cellsOf t = 1
  | .sl _ _ _ _ _ _, t => (∃ e, P.underlying t = some (.slice e)) ∧ P.cellsOf t = 1
  | .pa _ _ _ _ _, t => (∃ e, P.underlying t = some (.pointer e)) ∧ P.cellsOf t = 1
  | .nils, t => (∃ e, P.underlying t = some (.slice e)) ∧ P.cellsOf t = 1
  | .gs _ _ _, t => (∃ e, P.underlying t = some (.slice e)) ∧ P.cellsOf t = 1
  | .clo _ _, t => (∃ a b c, P.underlying t = some (.func a b c)) ∧ P.cellsOf t = 1
  | .nilfn, t => (∃ a b c, P.underlying t = some (.func a b c)) ∧ P.cellsOf t = 1
  | .nilif, t => (∃ m, P.underlying t = some (.interface m)) ∧ P.cellsOf t = 1
  | .ifc _ _, t => (∃ m, P.underlying t = some (.interface m)) ∧ P.cellsOf t = 1
  | .ints k n _, t => ∃ e, P.underlying t = some (.array n e) ∧ P.underlying e = some (.int k) ∧ P.cellsOf e = 1 ∧ P.cellsOf t = n
  | .agg l, t => (∃ fs, P.underlying t = some (.struct fs) ∧ HasF P l fs.toList 0 (P.cellsOf t)) ∨
      (∃ n e, P.underlying t = some (.array n e) ∧ l.length = n ∧ HasA P l e ∧ P.cellsOf t = n * P.cellsOf e)
  | .rows n f, t => ∃ e, P.underlying t = some (.array n e) ∧ (∀ i, Has P (f i) e) ∧ P.cellsOf t = n * P.cellsOf e
  | .tup _, _ => False
def HasF (P : Program) : List AV → List Field → Nat → Nat → Prop
  | [], [], o, s => o = s
  | v :: l, f :: fs, o, s => f.offset = o ∧ Has P v f.type ∧ HasF P l fs (o + P.cellsOf f.type) s
  | _, _, _, _ => False
def HasA (P : Program) : List AV → TypeId → Prop
  | [], _ => True
  | v :: l, e => Has P v e ∧ HasA P l e
end

/-- The whole of a stretch has the form that its name says. -/
def HasN (P : Program) (nm : Nm) (T : AV) : Prop :=
  if nm.row then
    match T with
    | .ints k n _ => n = nm.cap ∧ P.underlying nm.ty = some (.int k) ∧ P.cellsOf nm.ty = 1
    | .agg l => l.length = nm.cap ∧ HasA P l nm.ty
    | .rows n f => n = nm.cap ∧ ∀ i, Has P (f i) nm.ty
    | _ => False
  else Has P T nm.ty

mutual
/-- 'Has', reckoned. -/
def chk (P : Program) : AV → TypeId → Bool
  | .int k _, t => (match P.underlying t with | some (.int k') => decide (k = k') | _ => false) && Nat.beq (P.cellsOf t) 1
  | .bool _, t => (match P.underlying t with | some .bool => true | _ => false) && Nat.beq (P.cellsOf t) 1
  | .str _, t => (match P.underlying t with | some .string => true | _ => false) && Nat.beq (P.cellsOf t) 1
  | .ptr _ _ _, t => (match P.underlying t with | some (.pointer _) => true | _ => false) && Nat.beq (P.cellsOf t) 1
  | .nilp, t => (match P.underlying t with | some (.pointer _) => true | _ => false) && Nat.beq (P.cellsOf t) 1
  | .sl _ _ _ _ _ _, t => (match P.underlying t with | some (.slice _) => true | _ => false) && Nat.beq (P.cellsOf t) 1
  | .pa _ _ _ _ _, t => (match P.underlying t with | some (.pointer _) => true | _ => false) && Nat.beq (P.cellsOf t) 1
  | .nils, t => (match P.underlying t with | some (.slice _) => true | _ => false) && Nat.beq (P.cellsOf t) 1
  | .gs _ _ _, t => (match P.underlying t with | some (.slice _) => true | _ => false) && Nat.beq (P.cellsOf t) 1
  | .clo _ _, t => (match P.underlying t with | some (.func _ _ _) => true | _ => false) && Nat.beq (P.cellsOf t) 1
  | .nilfn, t => (match P.underlying t with | some (.func _ _ _) => true | _ => false) && Nat.beq (P.cellsOf t) 1
  | .nilif, t => (match P.underlying t with | some (.interface _) => true | _ => false) && Nat.beq (P.cellsOf t) 1
  | .ifc _ _, t => (match P.underlying t with | some (.interface _) => true | _ => false) && Nat.beq (P.cellsOf t) 1
  | .ints k n _, t => match P.underlying t with
    | some (.array m e) => Nat.beq n m && (match P.underlying e with | some (.int k') => decide (k = k') | _ => false) && Nat.beq (P.cellsOf e) 1 && Nat.beq (P.cellsOf t) n
    | _ => false
  | .agg l, t => match P.underlying t with
    | some (.struct fs) => chkF P l fs.toList 0 (P.cellsOf t)
    | some (.array n e) => Nat.beq l.length n && chkA P l e && Nat.beq (P.cellsOf t) (n * P.cellsOf e)
    | _ => false
  | .rows _ _, _ => false
  | .tup _, _ => false
def chkF (P : Program) : List AV → List Field → Nat → Nat → Bool
  | [], [], o, s => Nat.beq o s
  | v :: l, f :: fs, o, s => Nat.beq f.offset o && chk P v f.type && chkF P l fs (o + P.cellsOf f.type) s
  | _, _, _, _ => false
def chkA (P : Program) : List AV → TypeId → Bool
  | [], _ => true
  | v :: l, e => chk P v e && chkA P l e
end

/-- Rows of numbers, one below the other. -/
def colI (k : IntKind) (n : Nat) : List AV → Option (List (List Int))
  | [] => some []
  | .ints k' n' l :: r => cond (decide (k = k') && Nat.beq n n') (match colI k n r with | some q => some (l :: q) | none => none) none
  | _ :: _ => none
def colA (m : Nat) : List AV → Option (List (List AV))
  | [] => some []
  | .agg l :: r => cond (Nat.beq l.length m) (match colA m r with | some q => some (l :: q) | none => none) none
  | _ :: _ => none
def selCs (f : Nat → Option AV) : Nat → Nat → Option (List AV)
  | _, 0 => some []
  | c, n + 1 => match f c with
    | some v => match selCs f (c + 1) n with
      | some r => some (v :: r)
      | none => none
    | none => none
/-- Element i of alike elements, the place handed down to the numbers. -/
def selL : Nat → List AV → Nat → Option AV
  | 0, _, _ => none
  | d + 1, l, i => match l with
    | .ints k n _ :: _ => match colI k n l with
      | some q => some (.ints k n (q.getD i []))
      | none => none
    | .agg l0 :: _ => match colA l0.length l with
      | some q => match selCs (fun c => selL d (q.map fun r => r.getD c .nilp) i) 0 l0.length with
        | some vs => some (.agg vs)
        | none => none
      | none => none
    | _ => none
def subL (l : List AV) (i : Nat) : Option AV :=
  match l with
  | .agg _ :: _ => match selL 4 l i with
    | some v => some v
    | none => l[i]?
  | _ => l[i]?

theorem colI_spec {k : IntKind} {n : Nat} : {l : List AV} → {q : List (List Int)} → colI k n l = some q → ∀ (j : Nat) (u : AV), l[j]? = some u → ∃ x, u = .ints k n x ∧ q[j]? = some x
  | [], q, h, j, u, hu => by simp at hu
  | v :: r, q, h, j, u, hu => by
    cases v with
    | ints k' n' l =>
      simp only [colI] at h
      cases hc : decide (k = k') && Nat.beq n n' with
      | false => rw [hc] at h; simp at h
      | true =>
        rw [hc, cond_true] at h
        simp only [Bool.and_eq_true, decide_eq_true_eq] at hc
        obtain ⟨rfl, hn⟩ := hc
        have hn := Nat.eq_of_beq_eq_true hn
        subst hn
        split at h
        · rename_i q' hq
          simp only [Option.some.injEq] at h
          subst h
          cases j with
          | zero => simp only [List.getElem?_cons_zero, Option.some.injEq] at hu ⊢; exact ⟨l, hu.symm, rfl⟩
          | succ j => simp only [List.getElem?_cons_succ] at hu ⊢; exact colI_spec hq j u hu
        · simp at h
    | _ => simp [colI] at h
theorem colA_spec {m : Nat} : {l : List AV} → {q : List (List AV)} → colA m l = some q → ∀ (j : Nat) (u : AV), l[j]? = some u → ∃ x, u = .agg x ∧ q[j]? = some x ∧ x.length = m
  | [], q, h, j, u, hu => by simp at hu
  | v :: r, q, h, j, u, hu => by
    cases v with
    | agg l =>
      simp only [colA] at h
      cases hc : Nat.beq l.length m with
      | false => rw [hc] at h; simp at h
      | true =>
        rw [hc, cond_true] at h
        have hn := Nat.eq_of_beq_eq_true hc
        split at h
        · rename_i q' hq
          simp only [Option.some.injEq] at h
          subst h
          cases j with
          | zero => simp only [List.getElem?_cons_zero, Option.some.injEq] at hu ⊢; exact ⟨l, hu.symm, rfl, hn⟩
          | succ j => simp only [List.getElem?_cons_succ] at hu ⊢; exact colA_spec hq j u hu
        · simp at h
    | _ => simp [colA] at h
theorem selCs_spec {f : Nat → Option AV} : (c n : Nat) → {vs : List AV} → selCs f c n = some vs → vs.length = n ∧ ∀ j, j < n → f (c + j) = vs[j]?
  | c, 0, vs, h => by
    simp only [selCs, Option.some.injEq] at h
    subst h
    exact ⟨rfl, fun j hj => by omega⟩
  | c, n + 1, vs, h => by
    simp only [selCs] at h
    split at h
    · rename_i v hv
      split at h
      · rename_i r hr
        simp only [Option.some.injEq] at h
        subst h
        obtain ⟨h1, h2⟩ := selCs_spec (c + 1) n hr
        refine ⟨by simp [h1], fun j hj => ?_⟩
        cases j with
        | zero => simpa using hv
        | succ j => rw [List.getElem?_cons_succ, ← h2 j (by omega)]; congr 1; omega
      · simp at h
    · simp at h
theorem selL_spec : (d : Nat) → {l : List AV} → {i : Nat} → {v u : AV} → selL d l i = some v → l[i]? = some u → v = u
  | 0, l, i, v, u, h, _ => by simp [selL] at h
  | d + 1, l, i, v, u, h, hu => by
    unfold selL at h
    split at h
    · split at h
      · rename_i q hq
        simp only [Option.some.injEq] at h
        subst h
        obtain ⟨x, rfl, hx⟩ := colI_spec hq i u hu
        rw [List.getD_eq_getElem?_getD, hx]; rfl
      · simp at h
    · rename_i l0 _
      split at h
      · rename_i q hq
        split at h
        · rename_i vs hvs
          simp only [Option.some.injEq] at h
          subst h
          obtain ⟨x, rfl, hx, hxl⟩ := colA_spec hq i u hu
          obtain ⟨h1, h2⟩ := selCs_spec 0 _ hvs
          refine congrArg AV.agg (List.ext_getElem? fun c => ?_)
          rcases Nat.lt_or_ge c l0.length with hc | hc
          · have h3 := h2 c hc
            rw [Nat.zero_add] at h3
            have hvc : c < vs.length := by omega
            have hxc : c < x.length := by omega
            rw [List.getElem?_eq_getElem hvc] at h3 ⊢
            have h4 := selL_spec d h3 (u := x.getD c .nilp) (by rw [List.getElem?_map, hx]; rfl)
            rw [h4, List.getD_eq_getElem?_getD, List.getElem?_eq_getElem hxc]; rfl
          · rw [List.getElem?_eq_none (by omega), List.getElem?_eq_none (by omega)]
        · simp at h
      · simp at h
    · simp at h
theorem subL_eq {l : List AV} {i : Nat} (h : i < l.length) : subL l i = l[i]? := by
  unfold subL
  split
  · split
    · rename_i v hv
      rw [List.getElem?_eq_getElem h, selL_spec 4 hv (List.getElem?_eq_getElem h)]
    · rfl
  · rfl

def sub1 : AV → Nat → Option AV
  | .ints k _ l, i => some (.int k (l.getD i 0))
  | .agg l, i => subL l i
  | .rows _ f, i => some (f i)
  | _, _ => none

def getP : AV → List Nat → Option AV
  | v, [] => some v
  | v, i :: p => match sub1 v i with | some u => getP u p | none => none

def put1 : AV → Nat → AV → Option AV
  | .ints k n l, i, .int k' m => if k = k' then some (.ints k n (l.set i m)) else none
  | .agg l, i, v => some (.agg (l.set i v))
  | .rows n f, i, v => some (.rows n (fun j => if j = i then v else f j))
  | _, _, _ => none

def setP : AV → List Nat → AV → Option AV
  | _, [], x => some x
  | v, i :: p, x => match sub1 v i with
    | some u => match setP u p x with
      | some u' => put1 v i u'
      | none => none
    | none => none

theorem beq_eq {a b : Nat} (h : Nat.beq a b = true) : a = b := Nat.eq_of_beq_eq_true h

mutual
theorem has_of_chk (P : Program) : (v : AV) → (t : TypeId) → chk P v t = true → Has P v t
  | .int k n, t, h => by
    simp only [chk, Bool.and_eq_true] at h
    refine ⟨?_, beq_eq h.2⟩
    obtain ⟨h, -⟩ := h
    split at h <;> simp_all
  | .bool _, t, h => by
    simp only [chk, Bool.and_eq_true] at h
    refine ⟨?_, beq_eq h.2⟩
    obtain ⟨h, -⟩ := h
    split at h <;> simp_all
  | .str _, t, h => by
    simp only [chk, Bool.and_eq_true] at h
    refine ⟨?_, beq_eq h.2⟩
    obtain ⟨h, -⟩ := h
    split at h <;> simp_all
  | .ptr _ _ _, t, h => by
    simp only [chk, Bool.and_eq_true] at h
    refine ⟨?_, beq_eq h.2⟩
    obtain ⟨h, -⟩ := h
    split at h <;> simp_all
  | .nilp, t, h => by
    simp only [chk, Bool.and_eq_true] at h
    refine ⟨?_, beq_eq h.2⟩
    obtain ⟨h, -⟩ := h
    split at h <;> simp_all
  | .sl _ _ _ _ _ _, t, h => by
    simp only [chk, Bool.and_eq_true] at h
    refine ⟨?_, beq_eq h.2⟩
    obtain ⟨h, -⟩ := h
    split at h <;> simp_all
  | .gs _ _ _, t, h => by
    simp only [chk, Bool.and_eq_true] at h
    refine ⟨?_, beq_eq h.2⟩
    obtain ⟨h, -⟩ := h
    split at h <;> simp_all
  | .pa _ _ _ _ _, t, h => by
    simp only [chk, Bool.and_eq_true] at h
    refine ⟨?_, beq_eq h.2⟩
    obtain ⟨h, -⟩ := h
    split at h <;> simp_all
  | .nils, t, h => by
    simp only [chk, Bool.and_eq_true] at h
    refine ⟨?_, beq_eq h.2⟩
    obtain ⟨h, -⟩ := h
    split at h <;> simp_all
  | .clo _ _, t, h => by
    simp only [chk, Bool.and_eq_true] at h
    refine ⟨?_, beq_eq h.2⟩
    obtain ⟨h, -⟩ := h
    split at h <;> simp_all
  | .nilfn, t, h => by
    simp only [chk, Bool.and_eq_true] at h
    refine ⟨?_, beq_eq h.2⟩
    obtain ⟨h, -⟩ := h
    split at h <;> simp_all
  | .nilif, t, h => by
    simp only [chk, Bool.and_eq_true] at h
    refine ⟨?_, beq_eq h.2⟩
    obtain ⟨h, -⟩ := h
    split at h <;> simp_all
  | .ifc _ _, t, h => by
    simp only [chk, Bool.and_eq_true] at h
    refine ⟨?_, beq_eq h.2⟩
    obtain ⟨h, -⟩ := h
    split at h <;> simp_all
  | .ints k n l, t, h => by
    simp only [chk] at h
    split at h
    · rename_i m e hu
      simp only [Bool.and_eq_true] at h
      obtain ⟨⟨⟨h1, h2⟩, h3⟩, h4⟩ := h
      have e1 := beq_eq h1
      subst e1
      refine ⟨e, hu, ?_, beq_eq h3, beq_eq h4⟩
      split at h2 <;> simp_all
    · simp at h
  | .agg l, t, h => by
    simp only [chk] at h
    split at h
    · rename_i fs hu
      exact .inl ⟨fs, hu, hasF_of_chk P l fs.toList 0 _ h⟩
    · rename_i n e hu
      simp only [Bool.and_eq_true] at h
      exact .inr ⟨n, e, hu, beq_eq h.1.1, hasA_of_chk P l e h.1.2, beq_eq h.2⟩
    · simp at h
  | .rows _ _, t, h => by simp [chk] at h
  | .tup _, t, h => by simp [chk] at h
theorem hasF_of_chk (P : Program) : (l : List AV) → (fs : List Field) → (o s : Nat) → chkF P l fs o s = true → HasF P l fs o s
  | [], [], o, s, h => by simp only [chkF] at h; exact beq_eq h
  | v :: l, f :: fs, o, s, h => by
    simp only [chkF, Bool.and_eq_true] at h
    exact ⟨beq_eq h.1.1, has_of_chk P v _ h.1.2, hasF_of_chk P l fs _ _ h.2⟩
  | [], _ :: _, _, _, h => by simp [chkF] at h
  | _ :: _, [], _, _, h => by simp [chkF] at h
theorem hasA_of_chk (P : Program) : (l : List AV) → (e : TypeId) → chkA P l e = true → HasA P l e
  | [], _, _ => trivial
  | v :: l, e, h => by
    simp only [chkA, Bool.and_eq_true] at h
    exact ⟨has_of_chk P v e h.1, hasA_of_chk P l e h.2⟩
end

end Go.Vx
