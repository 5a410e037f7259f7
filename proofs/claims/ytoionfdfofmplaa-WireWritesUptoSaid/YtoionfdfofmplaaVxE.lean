/- The engine, part E: each operation does in the model what it does on abstract values. -/
import Derived.Test.YtoionfdfofmplaaVxD
import Derived.Maps.AppendAt
set_option autoImplicit false
set_option linter.unusedVariables false
set_option linter.unusedSimpArgs false
namespace Go.Vx
open Go Go.RowKit

/-- A slice's value: all of a row of elements of that type, in a memory that holds T there. -/
def SliceAt (P : Program) (w : World) (a : Value) (T : AV) (te : TypeId) : Prop :=
  ∃ nm : Nm, a = gsV nm (rowN T) ∧ nm.row = true ∧ nm.ty = te ∧ nm.cap = rowN T ∧ rowN T ≤ nm.tot ∧ (nm.non = true → rowN T = 0) ∧ (nm.tot : Int) ≤ 9223372036854775807 ∧ HasN P nm T ∧
    ((nm.non = false ∧ nm.blk < w.heap.size) ∨ (nm.non = true ∧ cells P (fun _ => none) T = [])) ∧ ∀ j x, (cells P (fun _ => none) T)[j]? = some x → w.cell? ⟨nm.blk, nm.off + j, none⟩ = some x

/-- What a call hands over, in the model. -/
def ArgAt (P : Program) (w : World) (a : Value) : AV → Prop
  | .tup [T, .clo te []] => SliceAt P w a T te
  | v => a = den P (fun _ => none) v
def ArgsAt (P : Program) (w : World) : List Value → List AV → Prop
  | [], [] => True
  | a :: as, v :: vs => ArgAt P w a v ∧ ArgsAt P w as vs
  | _, _ => False

/-- A row of its own: all of a block. -/
def RowB (P : Program) (nm : Nm) (w : World) : Prop :=
  nm.off = 0 ∧ nm.cap ≤ nm.tot ∧ nm.tot ≤ maxLen ∧ ∃ cur, w.heap[nm.blk]? = some (.cells cur nm.ty (0, 0)) ∧ cur.size = nm.tot * P.cellsOf nm.ty

theorem RowB.same {P : Program} {nm : Nm} {w w' : World} (h : RowB P nm w) (hb : w'.heap[nm.blk]? = w.heap[nm.blk]?) : RowB P nm w' := by
  obtain ⟨h1, h2, h3, cur, h4, h5⟩ := h
  exact ⟨h1, h2, h3, cur, by rw [hb]; exact h4, h5⟩
theorem RowB.lt {P : Program} {nm : Nm} {w : World} (h : RowB P nm w) : nm.blk < w.heap.size := by
  obtain ⟨-, -, -, cur, h4, -⟩ := h
  exact (Array.getElem?_eq_some_iff.1 h4).1

/-- A row of its own that a call hands back. -/
def RowR (P : Program) (w w' : World) (a : Value) (T : AV) (te : TypeId) : Prop :=
  ∃ nm : Nm, a = gsV nm (rowN T) ∧ nm.row = true ∧ nm.ty = te ∧ nm.cap = rowN T ∧ rowN T ≤ nm.tot ∧ (nm.non = true → rowN T = 0 ∧ cells P (fun _ => none) T = []) ∧ (nm.tot : Int) ≤ 9223372036854775807 ∧ HasN P nm T ∧ OK P (fun _ => none) T ∧ w.heap.size ≤ nm.blk ∧ (nm.K = nk ∧ ∀ s p, T ≠ .itr s p) ∧
    (nm.non = false → RowB P nm w' ∧ ∀ j x, (cells P (fun _ => none) T)[j]? = some x → w'.cell? ⟨nm.blk, nm.off + j, none⟩ = some x)

/-- What a call answers, in the model. -/
def ResAt (P : Program) (w w' : World) (a : Value) : AV → Prop
  | .tup [.tup [T, .clo te []], y] => ∃ b, a = .tuple #[b, den P (fun _ => none) y] ∧ RowR P w w' b T te ∧ OK P (fun _ => none) y
  | .tup [T, .clo te []] => RowR P w w' a T te
  | v => a = den P (fun _ => none) v ∧ OK P (fun _ => none) v

/-- A call answers v and leaves all that was there as it was. -/
def Meets (P : Program) (g : FuncId) (args : Array Value) (v : AV) (w : World) : Prop :=
  ((callFunc g args).run P w = .ok (.enter g args) w ∧ Calls P g args w fun e w' => ∃ a, e = .returned a ∧ ResAt P w w' a v ∧ Below w.heap.size w w') ∨ ∃ a, (callFunc g args).run P w = .ok (.value a) w ∧ ResAt P w w a v

/-- A function keeps its contract in every world that has grown out of 'w0': called with numbers, strings and aggregates of such, it returns what the contract says, and leaves all that was there as it was. -/
def SoundAt (P : Program) (w0 : World) (g : FuncId) (C : Ct) : Prop :=
  ∀ (vs : List AV) (v : AV), (C vs).run none some = some v → OKL P (fun _ => none) vs →
    ∀ w : World, Below w0.heap.size w0 w → ∀ as : List Value, ArgsAt P w as vs → Meets P g as.toArray v w

theorem SoundAt.weaken {P : Program} {w0 : World} {g : FuncId} {C C' : Ct} (h : SoundAt P w0 g C) (hc : ∀ vs v, OKL P (fun _ => none) vs → (C' vs).run none some = some v → (C vs).run none some = some v) : SoundAt P w0 g C' :=
  fun vs v hv ok => h vs v (hc vs v ok hv) ok

theorem callFunc_enter {P : Program} {g : FuncId} {fn : Func} (hfn : P.funcs[g]? = some fn) (hbody : fn.body.isNone = false) (hname : (fn.name == "runtime.NumGoroutine") = false) (args : Array Value) (w : World) :
    (callFunc g args).run P w = .ok (.enter g args) w := by
  simp only [callFunc, Sem.run_bind, run_program, Result.andThen_ok, hfn]; rw [if_neg (by rw [hname]; decide), if_neg (by rw [hbody]; decide)]; rfl

/-- Where a function begins: the world of the variables, the world at the begin, the blocks of that world that may be written to; those that hold what nobody writes to. -/
structure Base where
  g : World
  w : World
  A : Nat → Prop
  F : Nat → Prop
  low : Below g.heap.size g w
  hA : ∀ k, A k → g.heap.size ≤ k
def Base.own (B : Base) (k : Nat) : Prop := B.w.heap.size ≤ k ∨ B.A k
def Base.of (w0 w : World) (h : Below w0.heap.size w0 w) : Base := ⟨w0, w, fun _ => False, fun _ => False, h, fun _ h => h.elim⟩
theorem Base.own_ge {B : Base} {k : Nat} (h : B.own k) : B.g.heap.size ≤ k := by
  rcases h with h | h
  · exact Nat.le_trans B.low.size h
  · exact B.hA k h
/-- All else is as it was. -/
structure Kept (B : Base) (w : World) : Prop where
  os : w.os = B.w.os
  tape : w.tape = B.w.tape
  output : w.output = B.w.output
  size : B.w.heap.size ≤ w.heap.size
  block : ∀ k, k < B.w.heap.size → ¬ B.A k → w.heap[k]? = B.w.heap[k]?
theorem Kept.refl (B : Base) : Kept B B.w := ⟨rfl, rfl, rfl, Nat.le_refl _, fun _ _ _ => rfl⟩
theorem Kept.trans {B : Base} {w w' : World} (h : Kept B w) (k : Below w.heap.size w w') : Kept B w' :=
  ⟨k.os.trans h.os, k.tape.trans h.tape, k.output.trans h.output, Nat.le_trans h.size k.size, fun i hi hn => (k.block i (Nat.lt_of_lt_of_le hi h.size)).trans (h.block i hi hn)⟩
/-- Only own blocks are turned. -/
theorem Kept.step {B : Base} {w w' : World} (h : Kept B w) (h1 : w'.os = w.os) (h2 : w'.tape = w.tape) (h3 : w'.output = w.output) (h4 : w.heap.size ≤ w'.heap.size) (h5 : ∀ k, k < w.heap.size → ¬ B.own k → w'.heap[k]? = w.heap[k]?) : Kept B w' :=
  ⟨h1.trans h.os, h2.trans h.tape, h3.trans h.output, Nat.le_trans h.size h4, fun k hk hn => (h5 k (Nat.lt_of_lt_of_le hk h.size) (fun ho => ho.elim (fun h => by omega) hn)).trans (h.block k hk hn)⟩
theorem Kept.below {B : Base} {w : World} (h : Kept B w) : Below B.g.heap.size B.g w :=
  ⟨h.os.trans B.low.os, h.tape.trans B.low.tape, h.output.trans B.low.output, Nat.le_trans B.low.size h.size, fun k hk => (h.block k (Nat.lt_of_lt_of_le hk B.low.size) (fun ha => by have := B.hA k ha; omega)).trans (B.low.block k hk)⟩
theorem Kept.all {B : Base} {w : World} (h : Kept B w) (hA : ∀ k, ¬ B.A k) : Below B.w.heap.size B.w w := ⟨h.os, h.tape, h.output, h.size, fun k hk => h.block k hk (hA k)⟩

/-- What nobody writes to, and iterators. -/
structure Exs (w0 : Base) (ro : Nat) (ρ : Rho) (mem : List (Nat × AV)) (w : World) : Prop where
  froz : ∀ b nm, ρ b = some nm → ∀ k o v, nm.K.K k o = some v → w.cell? ⟨k, o, none⟩ = some v
  fhs : ∀ b nm, ρ b = some nm → nm.K.hs ≤ w.heap.size
  org : ∀ b nm, ρ b = some nm → ∀ k o v, nm.K.K k o = some v → w0.own k ∨ w0.F k
  away : ∀ b T nm, lk b mem = some T → ρ b = some nm → ro ≤ b → nm.non = false → ∀ b' nm', ρ b' = some nm' → ∀ k o v, nm'.K.K k o = some v → k ≠ nm.blk
  its : ∀ b s p, lk b mem = some (.itr s p) → ∃ nm, ρ b = some nm ∧ w.heap[nm.blk]? = some (.stringIter s p) ∧ w0.own nm.blk
  ita : ∀ b s p nm, lk b mem = some (.itr s p) → ρ b = some nm → ∀ b' T nm', lk b' mem = some T → ρ b' = some nm' → ro ≤ b' → nm'.non = false → nm.blk ≠ nm'.blk
  itd : ∀ b b' s s' p p' nm nm', lk b mem = some (.itr s p) → lk b' mem = some (.itr s' p') → ρ b = some nm → ρ b' = some nm' → b ≠ b' → nm.blk ≠ nm'.blk

/-- The same under other names. -/
theorem Exs.ren {w0 : Base} {ro : Nat} {ρ ρ' : Rho} {mem mem' : List (Nat × AV)} {w : World} (E : Exs w0 ro ρ mem w) {src : Nat → Option Nat} (hv : ∀ b nm, ρ' b = some nm → (∃ c, ρ c = some nm) ∨ nm.K = nk)
    (hm : ∀ b T, lk b mem' = some T → (∃ c T0, src b = some c ∧ lk c mem = some T0 ∧ ρ' b = ρ c ∧ (ro ≤ b → ro ≤ c) ∧ (T = T0 ∨ ∀ s p, T ≠ .itr s p)) ∨ ((∀ s p, T ≠ .itr s p) ∧ ∃ nm, ρ' b = some nm ∧ nm.non = true))
    (hi : ∀ b b' T T' c, lk b mem' = some T → lk b' mem' = some T' → src b = some c → src b' = some c → b = b') : Exs w0 ro ρ' mem' w := by
  have itr : ∀ b s p, lk b mem' = some (.itr s p) → ∃ c, src b = some c ∧ lk c mem = some (.itr s p) ∧ ρ' b = ρ c := by
    intro b s p h
    rcases hm b _ h with ⟨c, T0, h0, h1, h2, -, h3⟩ | ⟨h1, -⟩
    · rcases h3 with rfl | h3
      · exact ⟨c, h0, h1, h2⟩
      · exact absurd rfl (h3 s p)
    · exact absurd rfl (h1 s p)
  have row : ∀ b T nm, lk b mem' = some T → ρ' b = some nm → ro ≤ b → nm.non = false → ∃ c T0, lk c mem = some T0 ∧ ρ c = some nm ∧ ro ≤ c := by
    intro b T nm h hb hr hn
    rcases hm b T h with ⟨c, T0, -, h1, h2, h3, -⟩ | ⟨-, nm', h1, h2⟩
    · exact ⟨c, T0, h1, by rw [← h2]; exact hb, h3 hr⟩
    · rw [hb] at h1
      obtain rfl := Option.some.inj h1
      rw [hn] at h2; cases h2
  refine ⟨?_, ?_, ?_, ?_, ?_, ?_, ?_⟩
  · intro b nm hb k o v hk
    rcases hv b nm hb with ⟨c, hc⟩ | h
    · exact E.froz c nm hc k o v hk
    · rw [h] at hk; simp [nk] at hk
  · intro b nm hb
    rcases hv b nm hb with ⟨c, hc⟩ | h
    · exact E.fhs c nm hc
    · rw [h]; exact Nat.zero_le _
  · intro b nm hb k o v hk
    rcases hv b nm hb with ⟨c, hc⟩ | h
    · exact E.org c nm hc k o v hk
    · rw [h] at hk; simp [nk] at hk
  · intro b T nm hT hb hr hn b' nm' hb' k o v hk
    obtain ⟨c, T0, h1, h2, h3⟩ := row b T nm hT hb hr hn
    rcases hv b' nm' hb' with ⟨c', hc'⟩ | h
    · exact E.away c T0 nm h1 h2 h3 hn c' nm' hc' k o v hk
    · rw [h] at hk; simp [nk] at hk
  · intro b s p h
    obtain ⟨c, -, h1, h2⟩ := itr b s p h
    obtain ⟨nm, g1, g2⟩ := E.its c s p h1
    exact ⟨nm, by rw [h2]; exact g1, g2⟩
  · intro b s p nm h hb b' T nm' hT hb' hr hn
    obtain ⟨c, -, h1, h2⟩ := itr b s p h
    obtain ⟨c', T0, k1, k2, k3⟩ := row b' T nm' hT hb' hr hn
    exact E.ita c s p nm h1 (by rw [← h2]; exact hb) c' T0 nm' k1 k2 k3 hn
  · intro b b' s s' p p' nm nm' h h' hb hb' hne
    obtain ⟨c, h0, h1, h2⟩ := itr b s p h
    obtain ⟨c', k0, k1, k2⟩ := itr b' s' p' h'
    exact E.itd c c' s s' p p' nm nm' h1 k1 (by rw [← h2]; exact hb) (by rw [← k2]; exact hb') (fun e => hne (hi b b' _ _ c h h' h0 (by rw [e]; exact k0)))
theorem Exs.sub {w0 : Base} {ro : Nat} {ρ : Rho} {mem mem' : List (Nat × AV)} {w : World} (E : Exs w0 ro ρ mem w) (h : ∀ b T, lk b mem' = some T → lk b mem = some T) : Exs w0 ro ρ mem' w :=
  E.ren (src := some) (fun b _ hb => .inl ⟨b, hb⟩) (fun b T hT => .inl ⟨b, T, rfl, h b T hT, rfl, id, .inl rfl⟩) (fun b b' _ _ c _ _ h1 h2 => by rw [Option.some.inj h1, Option.some.inj h2])
theorem Exs.cast {w0 : Base} {ro : Nat} {ρ : Rho} {mem : List (Nat × AV)} {w w' : World} (E : Exs w0 ro ρ mem w) (h : w'.heap = w.heap) : Exs w0 ro ρ mem w' :=
  ⟨fun b nm hb k o v hk => by rw [World.cell?_of_block (w := w) (by rw [h])]; exact E.froz b nm hb k o v hk, fun b nm hb => by rw [h]; exact E.fhs b nm hb, E.org, E.away, fun b s p hb => by rw [h]; exact E.its b s p hb, E.ita, E.itd⟩

structure Sim (P : Program) (w0 : Base) (ro : Nat) (ρ : Rho) (tm mem : List (Nat × AV)) (tmps : Array Value) (w : World) : Prop where
  slot : ∀ d v, lk d tm = some v → d < tmps.size ∧ tmps.getD d undef = den P ρ v ∧ OK P ρ v
  cell : ∀ b T, lk b mem = some T → ∃ nm, ρ b = some nm ∧ HasN P nm T ∧ OK P ρ T ∧ ((nm.non = false ∧ nm.blk < w.heap.size) ∨ (nm.non = true ∧ cells P ρ T = [])) ∧ (∀ j x, (cells P ρ T)[j]? = some x → w.cell? ⟨nm.blk, nm.off + j, none⟩ = some x)
  own : ∀ b T nm, lk b mem = some T → ρ b = some nm → ro ≤ b → (nm.non = false → w0.own nm.blk) ∧ (∀ j, j < (cells P ρ T).length → w.frozen? ⟨nm.blk, nm.off + j, none⟩ = false)
  apart : ∀ b b' T T' nm nm', lk b mem = some T → lk b' mem = some T' → ρ b = some nm → ρ b' = some nm' → ro ≤ b → b ≠ b' → nm.non = false → nm'.non = false → nm.blk ≠ nm'.blk
  rows : ∀ b T nm, lk b mem = some T → ρ b = some nm → ro ≤ b → nm.row = true → nm.non = true ∨ RowB P nm w
  below : Kept w0 w
  ex : Exs w0 ro ρ mem w

def GL (P : Program) (ρ : Rho) (gl : Nat → Option AV) : Prop := ∀ g v, gl g = some v → den P ρ v = .pointer (some ⟨g, 0, none⟩) ∧ OK P ρ v

theorem GL.ext {P : Program} {ρ ρ' : Rho} {gl : Nat → Option AV} (h : GL P ρ gl) (e : Ext ρ ρ') : GL P ρ' gl := fun g v hg => by
  obtain ⟨a, b⟩ := h g v hg
  obtain ⟨c, d⟩ := den_ext P e v b
  exact ⟨c.trans a, d⟩

def upd (ρ : Rho) (m : Nat) (nm : Nm) : Rho := fun b => if b = m then some nm else ρ b
theorem ext_upd {ρ : Rho} {m : Nat} (h : ρ m = none) (nm : Nm) : Ext ρ (upd ρ m nm) := fun b n hb => by
  unfold upd
  split
  · rename_i e; subst e; rw [h] at hb; simp at hb
  · exact hb

/-- What an operation's effect is in the model. -/
inductive After (P : Program) (ro : Nat) (ρ : Rho) (mem : List (Nat × AV)) (w : World) (m : Nat) : Eff → Value → Rho → World → Prop
  | val (u : AV) (w' : World) : OK P ρ u → Below w.heap.size w w' → After P ro ρ mem w m (.val u) (den P ρ u) ρ w'
  | new (ty : TypeId) (row : Bool) (cap : Nat) (T : AV) (g : Nat → AV) : row = false → HasN P ⟨w.heap.size, 0, cap, ty, row, cap, false, nk⟩ T → OK P ρ T → OK P (upd ρ m ⟨w.heap.size, 0, cap, ty, row, cap, false, nk⟩) (g m) →
      After P ro ρ mem w m (.new ty row cap T g) (den P (upd ρ m ⟨w.heap.size, 0, cap, ty, row, cap, false, nk⟩) (g m)) (upd ρ m ⟨w.heap.size, 0, cap, ty, row, cap, false, nk⟩) (w.alloc (.cells (cells P ρ T).toArray ty))
  | upd (b : Nat) (T T0 : AV) (nm : Nm) (as old bs xs : List Value) : ro ≤ b → ρ b = some nm → lk b mem = some T0 → (∀ s p, T ≠ .itr s p) → HasN P nm T → OK P ρ T → cells P ρ T0 = as ++ (old ++ bs) → cells P ρ T = as ++ (xs ++ bs) → xs.length = old.length →
      After P ro ρ mem w m (.upd b T) undef ρ (w.setCells nm.blk (nm.off + as.length) xs)
  | grow (b : Option Nat) (T : AV) (g : Nat → AV) (nm : Nm) (w' : World) : HasN P nm T → OK P ρ T → OK P (upd ρ m nm) (g m) → nm.row = true → (nm.K = nk ∧ ∀ s p, T ≠ .itr s p) → (nm.non = true → cells P ρ T = []) →
      (nm.non = false → RowB P nm w' ∧ ∀ j x, (cells P ρ T)[j]? = some x → w'.cell? ⟨nm.blk, nm.off + j, none⟩ = some x) →
      (w.heap.size ≤ nm.blk ∨ ∃ b0 nm0 T0, b = some b0 ∧ ρ b0 = some nm0 ∧ lk b0 mem = some T0 ∧ ro ≤ b0 ∧ nm0.non = false ∧ nm.blk = nm0.blk) →
      (w'.os = w.os ∧ w'.tape = w.tape ∧ w'.output = w.output ∧ w.heap.size ≤ w'.heap.size) →
      (∀ k, k < w.heap.size → (∀ b0 nm0, b = some b0 → ρ b0 = some nm0 → nm0.non = false → k ≠ nm0.blk) → w'.heap[k]? = w.heap[k]?) →
      (∀ b0, b = some b0 → ro ≤ b0 ∧ ∃ T0, lk b0 mem = some T0) →
      After P ro ρ mem w m (.grow b T g) (den P (upd ρ m nm) (g m)) (upd ρ m nm) w'

theorem wrap_bd (k : IntKind) (n : Int) : k.min ≤ k.wrap n ∧ k.wrap n ≤ k.max := by
  cases k <;> simp [IntKind.min, IntKind.max, IntKind.wrap, IntKind.signed, IntKind.bits] <;> (try split) <;> omega

theorem ofV_sound (P : Program) (ρ : Rho) (c : Value) (v : AV) (h : ofV c = some v) : den P ρ v = c ∧ OK P ρ v := by
  unfold ofV at h
  split at h
  · rename_i k n
    cases hr : inR k n <;> rw [hr] at h <;> simp at h
    subst h
    exact ⟨rfl, by simpa [OK, inR] using hr⟩
  · simp at h; subst h; exact ⟨by simp [den], by simp [OK]⟩
  · rename_i s
    cases hr : inR .i64 s.size <;> rw [hr] at h <;> simp at h
    subst h
    refine ⟨by simp [den], ?_⟩
    simp only [inR, decide_eq_true_eq] at hr
    exact hr.2
  all_goals (simp at h; try (subst h; exact ⟨by simp [den], by simp [OK]⟩))

theorem ev_sound {P : Program} {w0 : Base} {ro : Nat} {ρ : Rho} {tm mem : List (Nat × AV)} {a : Act} {w : World} (S : Sim P w0 ro ρ tm mem a.tmps w)
    {gl : Nat → Option AV} (hgl : GL P ρ gl) {x : Operand} {v : AV} (h : evO gl tm x = some v) : a.eval x = den P ρ v ∧ OK P ρ v := by
  cases x with
  | tmp t => exact (S.slot t v h).2
  | const c =>
    obtain ⟨h1, h2⟩ := ofV_sound P ρ c v h
    exact ⟨h1.symm, h2⟩
  | global g =>
    obtain ⟨h1, h2⟩ := hgl g v h
    exact ⟨h1.symm, h2⟩
  | func f =>
    simp only [evO, Option.some.injEq] at h
    subst h
    exact ⟨by simp [Act.eval, den, denT], by simp [OK, OKL]⟩

theorem info_of {P : Program} {t : TypeId} {d : TypeDesc} (h : P.underlying t = some d) : ∃ i, P.info? t = some i ∧ P.cellsOf t = i.size := by
  unfold Program.underlying at h
  cases hi : P.info? t with
  | none => rw [hi] at h; simp at h
  | some i => exact ⟨i, rfl, by simp [Program.cellsOf, hi]⟩

theorem run_sizeOf' {P : Program} {t : TypeId} {d : TypeDesc} (h : P.underlying t = some d) (w : World) : (sizeOf t).run P w = .ok (P.cellsOf t) w := by
  obtain ⟨i, h1, h2⟩ := info_of h
  simp [sizeOf, typeInfo, h1, h2]

def wideD : TypeDesc → Bool
  | .struct _ => true
  | .array _ _ => true
  | _ => false

theorem run_isAgg' {P : Program} {t : TypeId} {d : TypeDesc} (h : P.underlying t = some d) (w : World) : (isAgg t).run P w = .ok (wideD d) w := by
  unfold isAgg
  rw [Sem.run_bind, run_underlying h]
  cases d <;> simp [wideD]

theorem has_wide {P : Program} {v : AV} {t : TypeId} (h : Has P v t) : ∃ d, P.underlying t = some d ∧ wideD d = wide v := by
  cases v <;> simp only [Has] at h
  case ints k n l => obtain ⟨e, h, -⟩ := h; exact ⟨_, h, rfl⟩
  case agg l => rcases h with ⟨fs, h, -⟩ | ⟨n, e, h, -⟩ <;> exact ⟨_, h, rfl⟩
  case rows n f => obtain ⟨e, h, -⟩ := h; exact ⟨_, h, rfl⟩
  all_goals first
    | (obtain ⟨⟨e', h⟩, -⟩ := h; exact ⟨_, h, rfl⟩)
    | (obtain ⟨⟨a, b, c, h⟩, -⟩ := h; exact ⟨_, h, rfl⟩)
    | (obtain ⟨h, -⟩ := h; exact ⟨_, h, rfl⟩)

theorem den_wide (P : Program) (ρ : Rho) (v : AV) (h : wide v = true) : den P ρ v = .agg (cells P ρ v).toArray := by
  cases v <;> simp [wide] at h <;> simp [cells, den, Value.cells]

theorem den_narrow (P : Program) (ρ : Rho) (v : AV) (t : TypeId) (hv : Has P v t) (h : wide v = false) : cells P ρ v = [den P ρ v] := by
  cases v <;> simp [wide] at h <;> try (simp [cells, den, Value.cells]; done)
  all_goals try (simp only [Has] at hv)
  case ptr b _ _ => cases hb : ρ b <;> simp [cells, den, Value.cells, hb]
  case sl b _ _ _ _ _ => cases hb : ρ b <;> simp [cells, den, Value.cells, hb]
  case pa b _ _ _ _ => cases hb : ρ b <;> simp [cells, den, Value.cells, hb]
  case gs b _ _ =>
    cases hb : ρ b with
    | none => simp [cells, den, Value.cells, hb]
    | some nm => cases hn : nm.non <;> simp [cells, den, gsV, Value.cells, hb, hn]
  case gp b _ _ _ _ _ =>
    cases hb : ρ b with
    | none => simp [cells, den, Value.cells, hb]
    | some nm => cases hn : nm.non <;> simp [cells, den, gpV, Value.cells, hb, hn]
  case dv b p _ _ _ =>
    cases hb : ρ b with
    | none => simp [cells, den, Value.cells, hb]
    | some nm => cases hn : dloc nm.K (nmL nm) p <;> simp [cells, den, dvV, Value.cells, hb, hn]
  case dq b p _ _ _ _ =>
    cases hb : ρ b with
    | none => simp [cells, den, Value.cells, hb]
    | some nm => cases hn : dloc nm.K (nmL nm) p <;> simp [cells, den, dqV, Value.cells, hb, hn]

theorem addr_add (b o j : Nat) : (⟨b, o, none⟩ : Addr).add j = ⟨b, o + j, none⟩ := by unfold Addr.add; split <;> simp_all

theorem run_loadVar' {P : Program} {ρ : Rho} {w : World} {v : AV} {t : TypeId} (hv : Has P v t) (ok : OK P ρ v) (b o : Nat)
    (hc : ∀ j x, (cells P ρ v)[j]? = some x → w.cell? ⟨b, o + j, none⟩ = some x) : (loadVar t ⟨b, o, none⟩).run P w = .ok (den P ρ v) w := by
  obtain ⟨d, hd, hw⟩ := has_wide hv
  unfold loadVar
  rw [Sem.run_bind, run_isAgg' hd, hw]
  cases hwv : wide v with
  | true =>
    have h1 := run_loadCells_list (P := P) w ⟨b, o, none⟩ (cells P ρ v) (fun j x hx => by rw [addr_add]; exact hc j x hx)
    rw [len_cells P ρ v t hv ok] at h1
    simp [run_sizeOf' hd, h1, den_wide P ρ v hwv]
  | false =>
    have h1 := den_narrow P ρ v t hv hwv
    have h2 := hc 0 (den P ρ v) (by simp [h1])
    simp only [Nat.add_zero] at h2
    simp [h2]

theorem run_storeVar' {P : Program} {ρ : Rho} {w : World} {v : AV} {t : TypeId} (hv : Has P v t) (ok : OK P ρ v) (b o : Nat)
    (hc : ∀ j, j < (cells P ρ v).length → (w.cell? ⟨b, o + j, none⟩).isSome = true) (hf : ∀ j, j < (cells P ρ v).length → w.frozen? ⟨b, o + j, none⟩ = false) :
    (storeVar t ⟨b, o, none⟩ (den P ρ v)).run P w = .ok () (w.setCells b o (cells P ρ v)) := by
  obtain ⟨d, hd, -⟩ := has_wide hv
  have hl := len_cells P ρ v t hv ok
  have hl' : (den P ρ v).cells.size = P.cellsOf t := by rw [← hl]; simp [cells]
  unfold storeVar
  rw [Sem.run_bind, run_sizeOf' hd]
  have h1 := run_storeCells_cells (P := P) b o (cells P ρ v) 0 w (by simpa using hc) (by simpa using hf) (one_cells P ρ v t hv)
  simp only [Nat.add_zero] at h1
  have h2 : (storeCells ⟨b, o, none⟩ (den P ρ v).cells.toList).run P w = .ok () (w.setCells b o (cells P ρ v)) := h1
  simp [hl', h2]

theorem pathT_snoc (P : Program) : (p : List Nat) → (t : TypeId) → (o : Nat) → (e : TypeId) → pathT P t p = some (o, e) → (i o' : Nat) → (u : TypeId) → stepT P e i = some (o', u) →
    pathT P t (p ++ [i]) = some (o + o', u)
  | [], t, o, e, h, i, o', u, hs => by
    simp only [pathT, Option.some.injEq, Prod.mk.injEq] at h
    obtain ⟨rfl, rfl⟩ := h
    simp [pathT, hs]
  | j :: p, t, o, e, h, i, o', u, hs => by
    simp only [pathT] at h
    split at h
    · rename_i o1 e1 h1
      split at h
      · rename_i o2 e2 h2
        simp only [Option.some.injEq, Prod.mk.injEq] at h
        obtain ⟨rfl, rfl⟩ := h
        simp [pathT, h1, pathT_snoc P p e1 o2 e2 h2 i o' u hs, Nat.add_assoc]
      · simp at h
    · simp at h

theorem pathN_snoc {P : Program} {nm : Nm} {p : List Nat} {o : Nat} {e : TypeId} (h : pathN P nm p = some (o, e)) {i o' : Nat} {u : TypeId} (hs : stepT P e i = some (o', u)) :
    pathN P nm (p ++ [i]) = some (o + o', u) := by
  unfold pathN at h ⊢
  split
  · rename_i hr
    rw [if_pos hr] at h
    cases p with
    | nil => simp at h
    | cons j q =>
      simp only at h
      simp only [List.cons_append]
      split at h
      · rename_i hj
        rw [if_pos hj]
        split at h
        · rename_i o1 u1 h1
          simp only [Option.some.injEq, Prod.mk.injEq] at h
          obtain ⟨rfl, rfl⟩ := h
          simp [pathT_snoc P q nm.ty o1 u1 h1 i o' u hs, Nat.add_assoc]
        · simp at h
      · simp at h
  · rename_i hr
    rw [if_neg hr] at h
    exact pathT_snoc P p nm.ty o e h i o' u hs

theorem step_arr {P : Program} {t e : TypeId} {n i : Nat} (h : P.underlying t = some (.array n e)) (hi : i < n) : stepT P t i = some (i * P.cellsOf e, e) := by
  simp [stepT, h, hi]

theorem base_elem {P : Program} {nm : Nm} {p : List Nat} {o n : Nat} {e : TypeId} (h : baseN P nm p = some (o, n, e)) {i : Nat} (hi : i < n) :
    pathN P nm (p ++ [i]) = some (o + i * P.cellsOf e, e) := by
  unfold baseN at h
  unfold pathN
  split
  · rename_i hr
    rw [if_pos hr] at h
    cases p with
    | nil =>
      simp only [Option.some.injEq, Prod.mk.injEq] at h
      obtain ⟨rfl, rfl, rfl⟩ := h
      simp [hi, pathT]
    | cons j q =>
      simp only at h
      simp only [List.cons_append]
      split at h
      · rename_i hj
        rw [if_pos hj]
        split at h
        · rename_i o1 u1 h1
          split at h
          · rename_i n' e' hu
            simp only [Option.some.injEq, Prod.mk.injEq] at h
            obtain ⟨rfl, rfl, rfl⟩ := h
            simp [pathT_snoc P q nm.ty o1 u1 h1 i _ _ (step_arr hu hi), Nat.add_assoc]
          · simp at h
        · simp at h
      · simp at h
  · rename_i hr
    rw [if_neg hr] at h
    split at h
    · rename_i o1 u1 h1
      split at h
      · rename_i n' e' hu
        simp only [Option.some.injEq, Prod.mk.injEq] at h
        obtain ⟨rfl, rfl, rfl⟩ := h
        exact pathT_snoc P p nm.ty o1 u1 h1 i _ _ (step_arr hu hi)
      · simp at h
    · simp at h

/-- An array behind a path is the base of a slice. -/
theorem base_of_path {P : Program} {nm : Nm} {p : List Nat} {o n : Nat} {t e : TypeId} (h : pathN P nm p = some (o, t)) (hu : P.underlying t = some (.array n e)) :
    baseN P nm p = some (o, n, e) := by
  unfold pathN at h
  unfold baseN
  split
  · rename_i hr
    rw [if_pos hr] at h
    cases p with
    | nil => simp at h
    | cons j q =>
      simp only at h ⊢
      split at h
      · rename_i hj
        rw [if_pos hj]
        split at h
        · rename_i o1 u1 h1
          simp only [Option.some.injEq, Prod.mk.injEq] at h
          obtain ⟨rfl, rfl⟩ := h
          simp [hu]
        · simp at h
      · simp at h
  · rename_i hr
    rw [if_neg hr] at h
    simp [h, hu]

theorem den_ptr {P : Program} {ρ : Rho} {b : Nat} {p : List Nat} {t : TypeId} {nm : Nm} {o : Nat} (hb : ρ b = some nm) (hp : pathN P nm p = some (o, t)) :
    den P ρ (.ptr b p t) = .pointer (some ⟨nm.blk, nm.off + o, none⟩) := by simp [den, hb, hp]
theorem den_sl {P : Program} {ρ : Rho} {b : Nat} {p : List Nat} {t : TypeId} {nm : Nm} {o n off len cap : Nat} (hb : ρ b = some nm) (hp : baseN P nm p = some (o, n, t)) :
    den P ρ (.sl b p off len cap t) = .slice (some ⟨nm.blk, nm.off + (o + off * P.cellsOf t), none⟩) len cap := by simp [den, hb, hp]
theorem den_pa {P : Program} {ρ : Rho} {b : Nat} {p : List Nat} {t : TypeId} {nm : Nm} {o m off n : Nat} (hb : ρ b = some nm) (hp : baseN P nm p = some (o, m, t)) :
    den P ρ (.pa b p off n t) = .pointer (some ⟨nm.blk, nm.off + (o + off * P.cellsOf t), none⟩) := by simp [den, hb, hp]

end Go.Vx
