/-
  THE EVALUATOR's SOUNDNESS, 1: trees by number; what an abstract value stands for in a real memory (through a map of block ids); what is kept on the way.
-/
import Derived.Test.YtecogacajmimhaaGreatDoorEv
namespace Go.Abs

/-! ## Trees -/
section
variable {α : Type}
theorem Tr.get_nil (n : Nat) : (Tr.nil : Tr α).get n = none := rfl
theorem Tr.get_zero (l r : Tr α) (v : Option α) : (Tr.node l v r).get 0 = v := rfl
theorem Tr.get_succ (l r : Tr α) (v : Option α) (k : Nat) : (Tr.node l v r).get (k + 1) = if k % 2 = 0 then l.get (k / 2) else r.get (k / 2) := by
  show Nat.rec (motive := fun _ => Option α) (l.get (k / 2)) (fun _ _ => r.get (k / 2)) (k % 2) = _
  cases h : k % 2 with
  | zero => rw [if_pos rfl]; rfl
  | succ j => rw [if_neg (by omega)]
theorem Tr.set_nil_zero (f : Nat) (x : Option α) : Tr.set (f + 1) (.nil : Tr α) 0 x = .node .nil x .nil := rfl
theorem Tr.set_nil_succ (f k : Nat) (x : Option α) :
    Tr.set (f + 1) (.nil : Tr α) (k + 1) x = if k % 2 = 0 then .node (Tr.set f .nil (k / 2) x) none .nil else .node .nil none (Tr.set f .nil (k / 2) x) := by
  show Nat.rec (motive := fun _ => Tr α) (.node (Tr.set f .nil (k / 2) x) none .nil) (fun _ _ => .node .nil none (Tr.set f .nil (k / 2) x)) (k % 2) = _
  cases h : k % 2 with
  | zero => rw [if_pos rfl]; rfl
  | succ j => rw [if_neg (by omega)]
theorem Tr.set_zero (f : Nat) (l r : Tr α) (v x : Option α) : Tr.set (f + 1) (.node l v r) 0 x = .node l x r := rfl
theorem Tr.set_succ (f k : Nat) (l r : Tr α) (v x : Option α) :
    Tr.set (f + 1) (.node l v r) (k + 1) x = if k % 2 = 0 then .node (Tr.set f l (k / 2) x) v r else .node l v (Tr.set f r (k / 2) x) := by
  show Nat.rec (motive := fun _ => Tr α) (.node (Tr.set f l (k / 2) x) v r) (fun _ _ => .node l v (Tr.set f r (k / 2) x)) (k % 2) = _
  cases h : k % 2 with
  | zero => rw [if_pos rfl]; rfl
  | succ j => rw [if_neg (by omega)]

theorem Tr.get_set : ∀ (f : Nat) (t : Tr α) (n m : Nat) (x : Option α), n < f → (Tr.set f t n x).get m = if m = n then x else t.get m := by
  intro f
  induction f with
  | zero => intro t n m x h; omega
  | succ f ih =>
    intro t n m x h
    cases t with
    | nil =>
      cases n with
      | zero =>
        rw [Tr.set_nil_zero]
        cases m with
        | zero => simp [Tr.get_zero]
        | succ j => rw [Tr.get_succ]; simp [Tr.get_nil]
      | succ k =>
        rw [Tr.set_nil_succ]
        have hk : k / 2 < f := by omega
        by_cases hp : k % 2 = 0
        · rw [if_pos hp]
          cases m with
          | zero => simp [Tr.get_zero, Tr.get_nil]
          | succ j =>
            rw [Tr.get_succ]
            by_cases hj : j % 2 = 0
            · rw [if_pos hj, ih _ _ _ _ hk, Tr.get_nil, Tr.get_nil]
              by_cases e : j = k
              · subst e; simp
              · rw [if_neg (by omega), if_neg (by omega)]
            · rw [if_neg hj, Tr.get_nil, Tr.get_nil, if_neg (by omega)]
        · rw [if_neg hp]
          cases m with
          | zero => simp [Tr.get_zero, Tr.get_nil]
          | succ j =>
            rw [Tr.get_succ]
            by_cases hj : j % 2 = 0
            · rw [if_pos hj, Tr.get_nil, Tr.get_nil, if_neg (by omega)]
            · rw [if_neg hj, ih _ _ _ _ hk, Tr.get_nil, Tr.get_nil]
              by_cases e : j = k
              · subst e; simp
              · rw [if_neg (by omega), if_neg (by omega)]
    | node l v r =>
      cases n with
      | zero =>
        rw [Tr.set_zero]
        cases m with
        | zero => simp [Tr.get_zero]
        | succ j => rw [Tr.get_succ, Tr.get_succ]; simp
      | succ k =>
        rw [Tr.set_succ]
        have hk : k / 2 < f := by omega
        by_cases hp : k % 2 = 0
        · rw [if_pos hp]
          cases m with
          | zero => simp [Tr.get_zero]
          | succ j =>
            rw [Tr.get_succ, Tr.get_succ]
            by_cases hj : j % 2 = 0
            · rw [if_pos hj, if_pos hj, ih _ _ _ _ hk]
              by_cases e : j = k
              · subst e; simp
              · rw [if_neg (by omega), if_neg (by omega)]
            · rw [if_neg hj, if_neg hj, if_neg (by omega)]
        · rw [if_neg hp]
          cases m with
          | zero => simp [Tr.get_zero]
          | succ j =>
            rw [Tr.get_succ, Tr.get_succ]
            by_cases hj : j % 2 = 0
            · rw [if_pos hj, if_pos hj, if_neg (by omega)]
            · rw [if_neg hj, if_neg hj, ih _ _ _ _ hk]
              by_cases e : j = k
              · subst e; simp
              · rw [if_neg (by omega), if_neg (by omega)]

theorem Tr.get_put (t : Tr α) (n m : Nat) (x : α) : (t.put n x).get m = if m = n then some x else t.get m := Tr.get_set _ _ _ _ _ (Nat.lt_succ_self n)
theorem Tr.get_drop (t : Tr α) (n m : Nat) : (t.drop n).get m = if m = n then none else t.get m := Tr.get_set _ _ _ _ _ (Nat.lt_succ_self n)
theorem Tr.get_put_same (t : Tr α) (n : Nat) (x : α) : (t.put n x).get n = some x := by rw [Tr.get_put, if_pos rfl]
theorem Tr.get_put_ne (t : Tr α) {n m : Nat} (x : α) (h : m ≠ n) : (t.put n x).get m = t.get m := by rw [Tr.get_put, if_neg h]

theorem nth_nil (n : Nat) : nth ([] : List α) n = none := rfl
theorem nth_eq : ∀ (l : List α) (n : Nat), nth l n = l[n]?
  | [], n => by simp [nth_nil]
  | x :: xs, 0 => rfl
  | x :: xs, n + 1 => by
    show nth xs n = _
    rw [nth_eq xs n]; simp
end

theorem Hp.getB_mk (nx : Nat) (tr : Tr Blk) (b : Nat) : (Hp.mk nx tr).getB b = tr.get b := rfl
theorem Hp.getB_putB (h : Hp) (b c : Nat) (x : Blk) : (h.putB b x).getB c = if c = b then some x else h.getB c := by
  cases h; exact Tr.get_put _ _ _ _
theorem Hp.nx_putB (h : Hp) (b : Nat) (x : Blk) : (h.putB b x).nx = h.nx := by cases h; rfl
theorem Hp.getB_new (h : Hp) (c : Nat) (x : Blk) : (h.new x).getB c = if c = h.nx then some x else h.getB c := by
  cases h; exact Tr.get_put _ _ _ _
theorem Hp.nx_new (h : Hp) (x : Blk) : (h.new x).nx = h.nx + 1 := by cases h; rfl
theorem Hp.eta (h : Hp) : Hp.mk h.nx h.tr = h := by cases h; rfl
theorem Hp.getB_tr (h : Hp) (b : Nat) : h.tr.get b = h.getB b := by cases h; rfl

/-! ## Values -/
structure Ad where
  blk : Nat
  off : Nat
  cap : Nat
abbrev Emb := Nat → Option Ad

mutual
/-- What an abstract value stands for: through E, which tells each block id's place; X: the values that are only handed on. -/
inductive VR (X : Nat → Option Value) (E : Emb) : Value → Value → Prop
  | bool (b : Bool) : VR X E (.bool b) (.bool b)
  | int (k : IntKind) (n : Int) : VR X E (.int k n) (.int k n)
  | float (k : FloatKind) (n : Nat) : VR X E (.float k n) (.float k n)
  | complex (k : FloatKind) (a b : Nat) : VR X E (.complex k a b) (.complex k a b)
  | string (s : ByteArray) : VR X E (.string s) (.string s)
  | ptrNil : VR X E (.pointer none) (.pointer none)
  | ptr {b o : Nat} {ad : Ad} (h : E b = some ad) : VR X E (.pointer (some ⟨b, o, none⟩)) (.pointer (some ⟨ad.blk, ad.off + o, none⟩))
  | opq {k : Nat} {r : Value} (h : X k = some r) : VR X E (.pointer (some ⟨0, k, some 0⟩)) r
  | glob (g : Nat) : VR X E (.pointer (some ⟨g, 0, some 1⟩)) (.pointer (some ⟨g, 0, none⟩))
  | sliceNil (n c : Nat) : VR X E (.slice none n c) (.slice none n c)
  | sliceK {b o n c : Nat} {ad : Ad} (hc : c < OPEN) (h : E b = some ad) : VR X E (.slice (some ⟨b, o, none⟩) n c) (.slice (some ⟨ad.blk, ad.off + o, none⟩) n c)
  | sliceO {b o n k : Nat} {ad : Ad} (h : E b = some ad) (hn : n + k ≤ ad.cap) : VR X E (.slice (some ⟨b, o, none⟩) n (OPEN + k)) (.slice (some ⟨ad.blk, ad.off + o, none⟩) n (ad.cap - k))
  | mapNil : VR X E (.map none) (.map none)
  | map {r : Nat} {ad : Ad} (h : E r = some ad) : VR X E (.map (some r)) (.map (some ad.blk))
  | chanNil : VR X E (.chan none) (.chan none)
  | nilFunc : VR X E .nilFunc .nilFunc
  | func {f : FuncId} {a b a' b' : List Value} (h1 : VRL X E a a') (h2 : VRL X E b b') : VR X E (.func (.func f) ⟨a⟩ ⟨b⟩) (.func (.func f) ⟨a'⟩ ⟨b'⟩)
  | yield {l : Nat} {ad : Ad} (h : E l = some ad) : VR X E (.func (.yield l) ⟨[]⟩ ⟨[]⟩) (.func (.yield ad.blk) ⟨[]⟩ ⟨[]⟩)
  | iface {t : TypeId} {v v' : Value} (h : VR X E v v') : VR X E (.iface t v) (.iface t v')
  | nilIface : VR X E .nilIface .nilIface
  | agg {a a' : List Value} (h : VRL X E a a') : VR X E (.agg ⟨a⟩) (.agg ⟨a'⟩)
  | tuple {a a' : List Value} (h : VRL X E a a') : VR X E (.tuple ⟨a⟩) (.tuple ⟨a'⟩)
inductive VRL (X : Nat → Option Value) (E : Emb) : List Value → List Value → Prop
  | nil : VRL X E [] []
  | cons {x y : Value} {xs ys : List Value} (h : VR X E x y) (t : VRL X E xs ys) : VRL X E (x :: xs) (y :: ys)
end

section
variable {X : Nat → Option Value} {E E' : Emb}

mutual
theorem VR.mono (hE : ∀ b ad, E b = some ad → E' b = some ad) : ∀ {v r : Value}, VR X E v r → VR X E' v r
  | _, _, .bool b => .bool b
  | _, _, .int k n => .int k n
  | _, _, .float k n => .float k n
  | _, _, .complex k a b => .complex k a b
  | _, _, .string s => .string s
  | _, _, .ptrNil => .ptrNil
  | _, _, .ptr h => .ptr (hE _ _ h)
  | _, _, .opq h => .opq h
  | _, _, .glob g => .glob g
  | _, _, .sliceNil n c => .sliceNil n c
  | _, _, .sliceK hc h => .sliceK hc (hE _ _ h)
  | _, _, .sliceO h hn => .sliceO (hE _ _ h) hn
  | _, _, .mapNil => .mapNil
  | _, _, .map h => .map (hE _ _ h)
  | _, _, .chanNil => .chanNil
  | _, _, .nilFunc => .nilFunc
  | _, _, .func h1 h2 => .func (VRL.mono hE h1) (VRL.mono hE h2)
  | _, _, .yield h => .yield (hE _ _ h)
  | _, _, .iface h => .iface (VR.mono hE h)
  | _, _, .nilIface => .nilIface
  | _, _, .agg h => .agg (VRL.mono hE h)
  | _, _, .tuple h => .tuple (VRL.mono hE h)
theorem VRL.mono (hE : ∀ b ad, E b = some ad → E' b = some ad) : ∀ {v r : List Value}, VRL X E v r → VRL X E' v r
  | _, _, .nil => .nil
  | _, _, .cons h t => .cons (VR.mono hE h) (VRL.mono hE t)
end

theorem VRL.length {xs ys : List Value} (h : VRL X E xs ys) : ys.length = xs.length := by
  induction xs generalizing ys with
  | nil => cases h; rfl
  | cons x xs ih => cases h with | cons h t => simp [ih t]
theorem VRL.append {xs ys us vs : List Value} (h : VRL X E xs ys) (h' : VRL X E us vs) : VRL X E (xs ++ us) (ys ++ vs) := by
  induction xs generalizing ys with
  | nil => cases h; exact h'
  | cons x xs ih => cases h with | cons h t => exact .cons h (ih t)
theorem VRL.get {xs ys : List Value} (h : VRL X E xs ys) {i : Nat} {x : Value} (hx : xs[i]? = some x) : ∃ y, ys[i]? = some y ∧ VR X E x y := by
  induction xs generalizing ys i with
  | nil => simp at hx
  | cons a xs ih =>
    cases h with
    | cons h t =>
      cases i with
      | zero => simp at hx; subst hx; exact ⟨_, by simp, h⟩
      | succ i => simp at hx; obtain ⟨y, hy, hr⟩ := ih t hx; exact ⟨y, by simpa using hy, hr⟩
theorem VRL.of_get {xs ys : List Value} (hl : ys.length = xs.length) (h : ∀ (i : Nat) (x y : Value), xs[i]? = some x → ys[i]? = some y → VR X E x y) : VRL X E xs ys := by
  induction xs generalizing ys with
  | nil => cases ys with | nil => exact .nil | cons y ys => simp at hl
  | cons x xs ih =>
    cases ys with
    | nil => simp at hl
    | cons y ys =>
      refine .cons (h 0 x y (by simp) (by simp)) (ih (by simpa using hl) fun i x y hx hy => h (i + 1) x y (by simpa using hx) (by simpa using hy))
theorem VRL.take {xs ys : List Value} (h : VRL X E xs ys) (n : Nat) : VRL X E (xs.take n) (ys.take n) := by
  induction xs generalizing ys n with
  | nil => cases h; simp; exact .nil
  | cons x xs ih =>
    cases h with
    | cons h t => cases n with
      | zero => simp; exact .nil
      | succ n => simp; exact .cons h (ih t n)
theorem VRL.drop {xs ys : List Value} (h : VRL X E xs ys) (n : Nat) : VRL X E (xs.drop n) (ys.drop n) := by
  induction xs generalizing ys n with
  | nil => cases h; simp; exact .nil
  | cons x xs ih =>
    cases h with
    | cons h t => cases n with
      | zero => simp; exact .cons h t
      | succ n => simp; exact ih t n
theorem VRL.map {α : Type} (f g : α → Value) (h : ∀ x, VR X E (f x) (g x)) : ∀ l : List α, VRL X E (l.map f) (l.map g)
  | [] => .nil
  | x :: l => .cons (h x) (VRL.map f g h l)
theorem VR.undef_ : VR X E (.tuple #[]) undef := .tuple .nil
theorem VR.undef_inv {r : Value} (h : VR X E (.tuple #[]) r) : r = undef := by
  cases h with | tuple h => cases h; rfl

theorem VRL.of_all {vs : List Value} (h : ∀ v ∈ vs, VR X E v v) : VRL X E vs vs := by
  induction vs with
  | nil => exact .nil
  | cons v vs ih => exact .cons (h v (by simp)) (ih fun u hu => h u (by simp [hu]))
theorem VR.refl_okS {v : Value} (h : okS v = true) : VR X E v v := by
  cases v with
  | pointer a => cases a with | none => exact .ptrNil | some a => simp [okS] at h
  | slice a n c => cases a with | none => exact .sliceNil n c | some a => simp [okS] at h
  | map a => cases a with | none => exact .mapNil | some a => simp [okS] at h
  | chan a => cases a with | none => exact .chanNil | some a => simp [okS] at h
  | _ => first | (constructor; done) | (simp [okS] at h; done)
theorem VR.refl_okC {v : Value} (h : okC v = true) : VR X E v v := by
  cases v with
  | agg vs =>
    obtain ⟨l⟩ := vs
    exact .agg (VRL.of_all fun v hv => VR.refl_okS (by simp only [okC, List.all_eq_true] at h; exact h v hv))
  | tuple vs =>
    obtain ⟨l⟩ := vs
    exact .tuple (VRL.of_all fun v hv => VR.refl_okS (by simp only [okC, List.all_eq_true] at h; exact h v hv))
  | _ => exact VR.refl_okS h
/-- What the operands stand for. -/
def ER (X : Nat → Option Value) (E : Emb) (ρ ρr : Operand → Value) : Prop := ∀ x, okOp x = true → VR X E (ρ x) (ρr x)

theorem VR.cells {v r : Value} (hX : ∀ k r, X k = some r → scalar r = true) (h : VR X E v r) : VRL X E (cellsL v) r.cells.toList := by
  cases h with
  | agg h => exact h
  | opq h =>
    have hs := hX _ _ h
    have e : r.cells.toList = [r] := by cases r <;> first | rfl | (simp [scalar] at hs)
    rw [e]
    exact .cons (.opq h) .nil
  | _ => simp [cellsL, Value.cells]; exact .cons (by constructor <;> assumption) .nil
theorem VR.scalar_ {v r : Value} (hX : ∀ k r, X k = some r → scalar r = true) (h : VR X E v r) (hs : scalar v = true) : scalar r = true := by
  cases h with
  | opq h => exact hX _ _ h
  | agg h => simp [scalar] at hs
  | tuple h => simp [scalar] at hs
  | _ => rfl
end

/-! ## Memory -/
def mapRel (X : Nat → Option Value) (E : Emb) (es : List (Value × Value × Nat)) (rs : List MapEntry) : Prop :=
  VRL X E (es.map (·.1)) (rs.map (·.key)) ∧ VRL X E (es.map (·.2.1)) (rs.map (·.val)) ∧ es.map (·.2.2) = rs.map (·.born)

def TR (X : Nat → Option Value) (E : Emb) (tm : Tr Value) (tmps : Array Value) : Prop := ∀ t, VR X E (tmOf tm (.tmp t)) (tmps.getD t undef)

def BRel (P : Program) (X : Nat → Option Value) (E : Emb) (w : World) (ad : Ad) : Blk → Prop
  | .cells e n pat over opn => ∃ arr, w.heap[ad.blk]? = some (.cells arr e (0, 0)) ∧ ad.off + n ≤ arr.size ∧
      (∀ i v, cellAt n pat over i = some v → ∃ y, arr[ad.off + i]? = some y ∧ VR X E v y) ∧ (opn = true → ad.off + ad.cap * P.cellsOf e ≤ arr.size)
  | .map es clock => ad.off = 0 ∧ ∃ rs, w.heap[ad.blk]? = some (.map rs clock) ∧ mapRel X E es rs.toList
  | .iter m since seen st => ad.off = 0 ∧ ∃ am, E m = some am ∧ w.heap[ad.blk]? = some (.mapIter (some am.blk) since ⟨seen⟩ st)
  | .loop st pe fn nt tm ps as bo de => ∃ tmps dd, E de = some dd ∧ tmps.size = nt ∧ TR X E tm tmps ∧
      w.heap[ad.blk]? = some (.loop { state := st, pending := pe, fn, tmps, params := ps, assign := as, body := bo, defers := dd.blk })
  | .defd full => w.heap[ad.blk]? = some (.deferred (bif full then some [] else none))

structure HRel (P : Program) (X : Nat → Option Value) (E : Emb) (h : Hp) (w : World) : Prop where
  blk : ∀ b x, h.getB b = some x → ∃ ad, E b = some ad ∧ BRel P X E w ad x
  inj : ∀ b b' x x' ad ad', h.getB b = some x → h.getB b' = some x' → E b = some ad → E b' = some ad' → ad.blk = ad'.blk → b = b'
  fresh : ∀ b, h.nx ≤ b → E b = none ∧ h.getB b = none
  bound : ∀ b ad, E b = some ad → ad.blk < w.heap.size

def Img (E : Emb) (h : Hp) (i : Nat) : Prop := ∃ b x ad, h.getB b = some x ∧ E b = some ad ∧ ad.blk = i

structure Evo (E : Emb) (h : Hp) (w : World) (E' : Emb) (h' : Hp) (w' : World) : Prop where
  ext : ∀ b ad, E b = some ad → E' b = some ad
  new : ∀ b ad, E' b = some ad → E b = none → h.nx ≤ b ∧ b < h'.nx
  nx : h.nx ≤ h'.nx
  size : w.heap.size ≤ w'.heap.size
  frame : ∀ i, i < w.heap.size → ¬ Img E h i → w'.heap[i]? = w.heap[i]?
  image : ∀ i, Img E' h' i → Img E h i ∨ w.heap.size ≤ i
  os : w'.os = w.os
  output : w'.output = w.output
  froz : ∀ a, w'.frozen? a = w.frozen? a

theorem Evo.refl (E : Emb) (h : Hp) (w : World) : Evo E h w E h w :=
  ⟨fun _ _ h => h, fun _ _ h h' => (by rw [h] at h'; cases h'), Nat.le_refl _, Nat.le_refl _, fun _ _ _ => rfl, fun _ h => .inl h, rfl, rfl, fun _ => rfl⟩
theorem Evo.trans {E E' E'' : Emb} {h h' h'' : Hp} {w w' w'' : World} (a : Evo E h w E' h' w') (b : Evo E' h' w' E'' h'' w'') : Evo E h w E'' h'' w'' where
  ext := fun _ _ h => b.ext _ _ (a.ext _ _ h)
  new := fun c ad h1 h2 => by
    cases hc : E' c with
    | some ad' => have := a.new c ad' hc h2; have := b.nx; omega
    | none => have := b.new c ad h1 hc; have := a.nx; omega
  nx := Nat.le_trans a.nx b.nx
  size := Nat.le_trans a.size b.size
  frame := fun i hi hn => by
    rw [b.frame i (Nat.lt_of_lt_of_le hi a.size) (fun h => by
      rcases a.image i h with h | h
      · exact hn h
      · omega), a.frame i hi hn]
  image := fun i h => by
    rcases b.image i h with h | h
    · exact a.image i h
    · exact .inr (Nat.le_trans a.size h)
  os := b.os.trans a.os
  output := b.output.trans a.output
  froz := fun x => (b.froz x).trans (a.froz x)

/-- A draw from the tape changes nothing that is told here. -/
def World.drewBy (w : World) (n : Nat) : World := { w with drawn := w.drawn + n }
theorem Evo.draw {E : Emb} {h : Hp} (w : World) (n : Nat) : Evo E h w E h { w with drawn := n } :=
  ⟨fun _ _ h => h, fun _ _ h h' => (by rw [h] at h'; cases h'), Nat.le_refl _, Nat.le_refl _, fun _ _ _ => rfl, fun _ h => .inl h, rfl, rfl, fun _ => rfl⟩

section
variable {P : Program} {X : Nat → Option Value}

theorem TR.mono {E E' : Emb} {tm : Tr Value} {tmps : Array Value} (hE : ∀ b ad, E b = some ad → E' b = some ad) (h : TR X E tm tmps) : TR X E' tm tmps :=
  fun t => (h t).mono hE
theorem mapRel.mono {E E' : Emb} {es : List (Value × Value × Nat)} {rs : List MapEntry} (hE : ∀ b ad, E b = some ad → E' b = some ad) (h : mapRel X E es rs) : mapRel X E' es rs :=
  ⟨h.1.mono hE, h.2.1.mono hE, h.2.2⟩
/-- A block reads on where its own place is as it was. -/
theorem BRel.carry {E E' : Emb} {w w' : World} {ad : Ad} {x : Blk} (hE : ∀ b ad, E b = some ad → E' b = some ad) (hw : w'.heap[ad.blk]? = w.heap[ad.blk]?)
    (h : BRel P X E w ad x) : BRel P X E' w' ad x := by
  cases x with
  | cells e n pat over opn =>
    obtain ⟨arr, h1, h2, h3, h4⟩ := h
    exact ⟨arr, hw.trans h1, h2, fun i v hv => let ⟨y, hy, hr⟩ := h3 i v hv; ⟨y, hy, hr.mono hE⟩, h4⟩
  | map es clock =>
    obtain ⟨h0, rs, h1, h2⟩ := h
    exact ⟨h0, rs, hw.trans h1, h2.mono hE⟩
  | iter m since seen st =>
    obtain ⟨h0, am, h1, h2⟩ := h
    exact ⟨h0, am, hE _ _ h1, hw.trans h2⟩
  | loop st pe fn nt tm ps as bo de =>
    obtain ⟨tmps, dd, h1, h2, h3, h4⟩ := h
    exact ⟨tmps, dd, hE _ _ h1, h2, h3.mono hE, hw.trans h4⟩
  | defd full => exact hw.trans h
theorem HRel.draw {E : Emb} {h : Hp} {w : World} (n : Nat) (hr : HRel P X E h w) : HRel P X E h { w with drawn := n } :=
  ⟨fun b x hb => let ⟨ad, h1, h2⟩ := hr.blk b x hb; ⟨ad, h1, BRel.carry (w := w) (fun _ _ h => h) rfl h2⟩, hr.inj, hr.fresh, hr.bound⟩
theorem BRel.cold {E : Emb} {w : World} {ad : Ad} {x : Blk} (h : BRel P X E w ad x) : ∀ a : Addr, a.block = ad.blk → w.frozen? a = false := by
  intro a ha
  unfold World.frozen?
  rw [ha]
  cases x with
  | cells e n pat over opn =>
    obtain ⟨arr, h1, _⟩ := h
    rw [h1]
    simp
  | map es clock => obtain ⟨_, rs, h1, _⟩ := h; rw [h1]
  | iter m since seen st => obtain ⟨_, am, _, h2⟩ := h; rw [h2]
  | loop st pe fn nt tm ps as bo de => obtain ⟨tmps, dd, _, _, _, h4⟩ := h; rw [h4]
  | defd full =>
    have h : w.heap[ad.blk]? = some (.deferred (bif full then some [] else none)) := h
    rw [h]
theorem frozen_eq {w w' : World} {k : Nat} (ho : ∀ i, i ≠ k → w'.heap[i]? = w.heap[i]?) (h1 : ∀ a : Addr, a.block = k → w'.frozen? a = false) (h2 : ∀ a : Addr, a.block = k → w.frozen? a = false) : ∀ a, w'.frozen? a = w.frozen? a := fun a => by
  by_cases e : a.block = k
  · rw [h1 a e, h2 a e]
  · unfold World.frozen?; rw [ho _ e]
theorem frozen_out {w : World} {a : Addr} (h : a.block = w.heap.size) : w.frozen? a = false := by
  unfold World.frozen?
  rw [h, Array.getElem?_eq_none (Nat.le_refl _)]
theorem HRel.img_lt {E : Emb} {h : Hp} {w : World} (hr : HRel P X E h w) {i : Nat} (hi : Img E h i) : i < w.heap.size := by
  obtain ⟨b, x, ad, _, h2, rfl⟩ := hi
  exact hr.bound b ad h2
end
end Go.Abs
