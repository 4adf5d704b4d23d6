/-
  THE EVALUATOR's SOUNDNESS, 15: a region in whatever order it draws.
-/
import Derived.Test.YtecogacajmimhaaGreatDoorB5
namespace Go.Abs

/-! ### What an operation looks at -/
def Same (ρ ρ' : Env) : Cls → Prop
  | .pure f => ∀ P, f P ρ = f P ρ'
  | .read f => ∀ P h, f P ρ h = f P ρ' h
  | .alloc f => ∀ P id, f P ρ id = f P ρ' id
  | .eff f => ∀ P cf cr h, f P cf cr ρ h = f P cf cr ρ' h
  | .slc f _ => ∀ P, f P ρ = f P ρ'
  | .bad => True

theorem mapL_congr {ρ ρ' : Env} {l : List Operand} (h : ∀ x ∈ l, ρ x = ρ' x) : l.map ρ = l.map ρ' := List.map_congr_left h
theorem mapO_congr {ρ ρ' : Env} {l : Option Operand} (h : ∀ x ∈ l.toList, ρ x = ρ' x) : l.map ρ = l.map ρ' := by
  cases l with
  | none => rfl
  | some x => exact congrArg some (h x (by simp))
theorem mapP_congr {ρ ρ' : Env} {l : List (Nat × Operand)} (h : ∀ x ∈ l.map (·.2), ρ x = ρ' x) : (l.map fun p => (p.1, ρ p.2)) = l.map fun p => (p.1, ρ' p.2) :=
  List.map_congr_left fun p hp => by rw [h p.2 (List.mem_map.2 ⟨p, hp, rfl⟩)]

theorem cls_same (o : Op) {ρ ρ' : Env} (h : ∀ x ∈ o.operands.toList, ρ x = ρ' x) : Same ρ ρ' (cls o) := by
  cases o <;> simp only [cls] <;> try exact trivial
  case move x => intro P; simp only [pMove, h x (by simp [Op.operands])]
  case assign x => intro P; simp only [pMove, h x (by simp [Op.operands])]
  case pick c a b => intro P; simp only [pPick, h c (by simp [Op.operands]), h a (by simp [Op.operands]), h b (by simp [Op.operands])]
  case build t ps => intro P; simp only [pBuild]; rw [mapP_congr fun x hx => h x (by simpa [Op.operands] using hx)]
  case nilCheck x => intro P; simp only [pNil, h x (by simp [Op.operands])]
  case binOp op t x y yt => intro P; simp only [pBin, h x (by simp [Op.operands]), h y (by simp [Op.operands])]
  case unOp op t x => intro P; simp only [pUn, h x (by simp [Op.operands])]
  case convert s d x => intro P; simp only [pConv, h x (by simp [Op.operands])]
  case makeInterface t x => intro P; simp only [pMkI, h x (by simp [Op.operands])]
  case makeFunc fn a b =>
    intro P
    have h1 : a.toList.map ρ = a.toList.map ρ' := mapL_congr fun x hx => h x (by simp only [Op.operands, Array.toList_append]; exact List.mem_append_left _ hx)
    have h2 : b.toList.map ρ = b.toList.map ρ' := mapL_congr fun x hx => h x (by simp only [Op.operands, Array.toList_append]; exact List.mem_append_right _ hx)
    simp only [pMkF, h1, h2]
  case slice t x lo hi mx =>
    have h1 := mapO_congr (ρ := ρ) (ρ' := ρ') (l := lo) fun y hy => h y (by cases lo <;> simp_all [Op.operands])
    have h2 := mapO_congr (ρ := ρ) (ρ' := ρ') (l := hi) fun y hy => h y (by cases hi <;> simp_all [Op.operands])
    have h3 := mapO_congr (ρ := ρ) (ρ' := ρ') (l := mx) fun y hy => h y (by cases mx <;> simp_all [Op.operands])
    cases mx with
    | none => intro P; simp only [pSlice, h x (by simp [Op.operands]), h1, h2, h3]
    | some m => intro P; simp only [pSlice, h x (by simp [Op.operands]), h1, h2, h3]
  case fieldAddr t x f => intro P; simp only [pFieldAddr, h x (by simp [Op.operands])]
  case field t x f => intro P; simp only [pField, h x (by simp [Op.operands])]
  case indexAddr t x i => intro P; simp only [pIndexAddr, h x (by simp [Op.operands]), h i (by simp [Op.operands])]
  case index t x i => intro P; simp only [pIndex, h x (by simp [Op.operands]), h i (by simp [Op.operands])]
  case typeAssert x t a ok => cases ok; (intro P; simp only [pAssert, h x (by simp [Op.operands])]); exact trivial
  case extract x i => intro P; simp only [pExtract, h x (by simp [Op.operands])]
  case load t x => intro P hp; simp only [rLoad, h x (by simp [Op.operands])]
  case lookup t x k ok => intro P hp; simp only [rLookup, h x (by simp [Op.operands]), h k (by simp [Op.operands])]
  case entry x => intro P hp; simp only [rEntry, h x (by simp [Op.operands])]
  case alloc t => intro P id; rfl
  case box t x => intro P id; simp only [aBox, h x (by simp [Op.operands])]
  case buildSlice t n ps => intro P id; simp only [aBuildSlice]; rw [mapP_congr fun x hx => h x (by simpa [Op.operands] using hx)]
  case makeMap t r => cases r; (intro P id; rfl); exact trivial
  case makeSlice t l c => intro P id; simp only [aMakeSlice, h l (by simp [Op.operands]), h c (by simp [Op.operands])]
  case store t x v => intro P cf cr hp; simp only [eStore, h x (by simp [Op.operands]), h v (by simp [Op.operands])]
  case mapUpdate t m k v => intro P cf cr hp; simp only [eMapUpdate, h m (by simp [Op.operands]), h k (by simp [Op.operands]), h v (by simp [Op.operands])]
  case range t x => intro P cf cr hp; simp only [eRange, h x (by simp [Op.operands])]
  case next x s => cases s; (intro P cf cr hp; simp only [eNext, h x (by simp [Op.operands])]); exact trivial
  case call c =>
    obtain ⟨callee, args, ts⟩ := c
    have ha : args.toList.map ρ = args.toList.map ρ' := mapL_congr fun x hx => h x (by simp only [Op.operands, Call.operands, Array.toList_append]; exact List.mem_append_right _ hx)
    cases callee with
    | value f => intro P cf cr hp; simp only [eCall, ha, h f (by simp [Op.operands, Call.operands])]
    | invoke r m => exact trivial
    | builtin b =>
      cases b <;> simp only [clsC, clsB] <;> try exact trivial
      case max => intro P; simp only [pMax, ha]
      case min => intro P; simp only [pMin, ha]
      case len =>
        intro P hp
        simp only [rLen]
        cases hl : args.toList with
        | nil => rfl
        | cons x xs =>
          rw [hl] at ha
          cases xs with
          | nil =>
            have : ρ x = ρ' x := by simpa using ha
            cases ts.toList with
            | nil => rfl
            | cons t l =>
              cases l with
              | nil => exact congrArg (evLen P hp t) this
              | cons => rfl
          | cons y ys => rfl
      case append => intro P cf cr hp; simp only [eAppend, ha]
      case copy => intro P cf cr hp; simp only [eCopy, ha]

/-! ### Blocks laid beside a memory -/
def IsCur (Q : Nat → Blk → Prop) (base : Nat) (h cur : Hp) : Prop :=
  cur.nx = h.nx ∧ (∀ a b, Q a b → cur.getB (base + a) = some b) ∧ ∀ c, (∀ a b, Q a b → c ≠ base + a) → cur.getB c = h.getB c

theorem IsCur.cases {Q : Nat → Blk → Prop} {base : Nat} {h cur : Hp} (hi : IsCur Q base h cur) {c : Nat} {x : Blk} (hc : cur.getB c = some x) : (∃ a, Q a x ∧ c = base + a) ∨ ((∀ a b, Q a b → c ≠ base + a) ∧ h.getB c = some x) := by
  by_cases hq : ∃ a b, Q a b ∧ c = base + a
  · obtain ⟨a, b, h1, rfl⟩ := hq
    rw [hi.2.1 a b h1] at hc
    cases hc
    exact .inl ⟨a, h1, rfl⟩
  · have hn : ∀ a b, Q a b → c ≠ base + a := fun a b h1 h2 => hq ⟨a, b, h1, h2⟩
    rw [hi.2.2 c hn] at hc
    exact .inr ⟨hn, hc⟩

theorem IsCur.exist {Q : Nat → Blk → Prop} (hu : ∀ a b b', Q a b → Q a b' → b = b') (base : Nat) (h : Hp) : ∀ m, ∃ cur, IsCur (fun a b => a < m ∧ Q a b) base h cur
  | 0 => ⟨h, rfl, fun a b h => absurd h.1 (by omega), fun _ _ => rfl⟩
  | m + 1 => by
    obtain ⟨cur, h1, h2, h3⟩ := IsCur.exist hu base h m
    by_cases hq : ∃ b, Q m b
    · obtain ⟨b, hb⟩ := hq
      refine ⟨cur.putB (base + m) b, by rw [Hp.nx_putB]; exact h1, fun a b' hab => ?_, fun c hc => ?_⟩
      · rw [Hp.getB_putB]
        by_cases e : a = m
        · subst e; rw [if_pos rfl, hu _ _ _ hb hab.2]
        · rw [if_neg (by omega)]
          exact h2 a b' ⟨by omega, hab.2⟩
      · rw [Hp.getB_putB, if_neg (hc m b ⟨by omega, hb⟩)]
        exact h3 c fun a b' hab => hc a b' ⟨by omega, hab.2⟩
    · refine ⟨cur, h1, fun a b' hab => h2 a b' ⟨?_, hab.2⟩, fun c hc => h3 c fun a b' hab => hc a b' ⟨by omega, hab.2⟩⟩
      by_cases e : a = m
      · subst e; exact absurd ⟨b', hab.2⟩ hq
      · omega

theorem layAll_nx : ∀ (ps : List (Nat × Nat × Blk)) (h : Hp), (layAll ps h).nx = h.nx
  | [], _ => rfl
  | (_, id, b) :: ps, h => (layAll_nx ps (h.putB id b)).trans (Hp.nx_putB h id b)
theorem layAll_not {c : Nat} : ∀ (ps : List (Nat × Nat × Blk)) (h : Hp), (∀ p ∈ ps, p.2.1 ≠ c) → (layAll ps h).getB c = h.getB c
  | [], _, _ => rfl
  | (j, id, b) :: ps, h, hn => by
    have h1 := layAll_not ps (h.putB id b) fun p hp => hn p (List.mem_cons_of_mem _ hp)
    have h2 : id ≠ c := hn (j, id, b) List.mem_cons_self
    show (layAll ps (h.putB id b)).getB c = _
    rw [h1, Hp.getB_putB, if_neg (Ne.symm h2)]
theorem layAll_mem {c : Nat} {x : Blk} : ∀ (ps : List (Nat × Nat × Blk)) (h : Hp), (∀ p ∈ ps, p.2.1 = c → p.2.2 = x) → (∃ p ∈ ps, p.2.1 = c) → (layAll ps h).getB c = some x
  | [], _, _, ⟨p, hp, _⟩ => by cases hp
  | (j, id, b) :: ps, h, hu, hex => by
    show (layAll ps (h.putB id b)).getB c = _
    by_cases hr : ∃ p ∈ ps, p.2.1 = c
    · exact layAll_mem ps _ (fun p hp => hu p (List.mem_cons_of_mem _ hp)) hr
    · rw [layAll_not ps _ fun p hp h => hr ⟨p, hp, h⟩, Hp.getB_putB]
      obtain ⟨p, hp, he⟩ := hex
      rcases List.mem_cons.1 hp with rfl | hp
      · rw [if_pos he.symm]
        exact congrArg some (hu _ List.mem_cons_self he)
      · exact absurd ⟨p, hp, he⟩ hr

section
variable {P : Program} {X : Nat → Option Value} {cf cr : Caller} {nt base : Nat} {ops : List Oper} {s : Nat → Rg} {v : Nat → Value}

/-- Made and not yet laid. -/
def Pnd (P : Program) (base : Nat) (ops : List Oper) (s : Nat → Rg) (S : Nat → Prop) (p : Nat) (a : Nat) (b : Blk) : Prop := Al P base ops s a b ∧ S a ∧ ¬ Laid ops s p a

theorem lay_cur (tr : Trk P cf cr nt base ops s v) {i : Nat} (hi : i ≤ ops.length) (g : Nat → Bool) :
    IsCur (fun a b => Al P base ops s a b ∧ a < i ∧ g a = true ∧ ¬ Laid ops s i a) base (s i).hp (layAll ((s i).pend.filter fun p => g p.1) (s i).hp) := by
  refine ⟨layAll_nx _ _, fun a b h => layAll_mem _ _ (fun p hp he => ?_) ⟨(a, base + a, b), List.mem_filter.2 ⟨(tr.pend i hi a _ b).2 ⟨h.2.1, rfl, h.1, h.2.2.2⟩, h.2.2.1⟩, rfl⟩, fun c hc => layAll_not _ _ fun p hp he => ?_⟩
  · obtain ⟨a', id, b'⟩ := p
    obtain ⟨h1, h2⟩ := List.mem_filter.1 hp
    obtain ⟨h3, h4, h5, h6⟩ := (tr.pend i hi a' id b').1 h1
    have he : id = base + a := he
    have : a' = a := by omega
    subst this
    exact h5.uniq h.1
  · obtain ⟨a', id, b'⟩ := p
    obtain ⟨h1, h2⟩ := List.mem_filter.1 hp
    obtain ⟨h3, h4, h5, h6⟩ := (tr.pend i hi a' id b').1 h1
    have he : id = c := he
    exact hc a' b' ⟨h5, h3, h2, h6⟩ (by omega)

/-- The memory when the operations of S are done. -/
def Mem (P : Program) (X : Nat → Option Value) (base : Nat) (ops : List Oper) (s : Nat → Rg) (E0 : Emb) (h0 : Hp) (w0 : World) (S : Nat → Prop) (E : Emb) (w : World) : Prop :=
  ∃ p cur, p ≤ ops.length ∧ (∀ e, Ef ops s e → (S e ↔ e < p)) ∧ IsCur (Pnd P base ops s S p) base (s p).hp cur ∧ (∀ a b, Al P base ops s a b → ¬ Laid ops s p a → (s p).hp.getB (base + a) = none) ∧
    base + ops.length ≤ cur.nx ∧ HRel P X E cur w ∧ Evo E0 h0 w0 E cur w

structure Now (P : Program) (X : Nat → Option Value) (nt base : Nat) (ops : List Oper) (s : Nat → Rg) (v : Nat → Value) (E0 : Emb) (h0 : Hp) (w0 : World) (S : Nat → Prop) (E : Emb) (w : World) (tmps : Array Value) : Prop where
  size : tmps.size = nt
  closed : ∀ i j, S i → Anc ops i j → S j
  tmp : ∀ t, ∃ u, CurVal ops (s 0).tm v S t u ∧ VR X E u (tmps.getD t undef)
  res : ∀ a, a < ops.length → ¬ S a → E (base + a) = none
  mem : Mem P X base ops s E0 h0 w0 S E w

variable {E0 E E' : Emb} {h0 : Hp} {w0 w w' : World} {S : Nat → Prop} {tmps : Array Value}

theorem Now.agree (tr : Trk P cf cr nt base ops s v) (n : Now P X nt base ops s v E0 h0 w0 S E w tmps) {i : Nat} {o : Oper} (ho : ops[i]? = some o) (hS : ¬ S i) (ha : ∀ j, Anc ops i j → S j) {t : Tmp} (ht : t ∈ namesOf ops o) :
    ∀ u, CurVal ops (s 0).tm v S t u → u = tmOf (s i).tm (.tmp t) := fun u hu => by
  have h := tr.tm t i (Nat.le_of_lt (List.getElem?_eq_some_iff.1 ho).1)
  refine hu.uniq (h.congr fun j q hq hd => ?_)
  by_cases e : i = j
  · subst e; exact ⟨fun h => by omega, fun h => absurd h hS⟩
  · rcases ordered tr.tmps ho hq hd e (.inl ht) with ⟨h1, h2⟩ | ⟨h1, h2⟩
    · exact ⟨fun _ => ha j h2, fun _ => h1⟩
    · exact ⟨fun h => by omega, fun h => absurd (n.closed j i h h2) hS⟩

theorem Now.next (tr : Trk P cf cr nt base ops s v) (n : Now P X nt base ops s v E0 h0 w0 S E w tmps) {i : Nat} {o : Oper} (ho : ops[i]? = some o) (hS : ¬ S i) (ha : ∀ j, Anc ops i j → S j)
    (hext : ∀ b ad, E b = some ad → E' b = some ad) {v' : Value} (hv : VR X E' (v i) v') (hres : ∀ a, a < ops.length → ¬ S a → a ≠ i → E' (base + a) = none) (hm : Mem P X base ops s E0 h0 w0 (fun j => S j ∨ j = i) E' w') :
    Now P X nt base ops s v E0 h0 w0 (fun j => S j ∨ j = i) E' w' (putT tmps o.dst v') := by
  refine ⟨by rw [putT_size]; exact n.size, fun j l hj hl => ?_, fun t => ?_, fun a h1 h2 => hres a h1 (fun h => h2 (.inl h)) (fun h => h2 (.inr h)), hm⟩
  · rcases hj with hj | rfl
    · exact .inl (n.closed j l hj hl)
    · exact .inl (ha l hl)
  · obtain ⟨u, h1, h2⟩ := n.tmp t
    refine ⟨_, CurVal.put ho (fun j => Iff.rfl) (fun j q hj hq hd hd' => ?_) h1, ?_⟩
    · by_cases e : i = j
      · omega
      · rcases ordered tr.tmps ho hq hd e (.inr hd') with ⟨g1, g2⟩ | ⟨g1, g2⟩
        · omega
        · exact absurd (n.closed j i hj g2) hS
    · cases hd : o.dst with
      | none => simp only [putT]; rw [if_neg (by simp)]; exact h2.mono hext
      | some d =>
        have hp := (tr.step i o ho).1
        rw [hd] at hp
        have hlt : d < tmps.size := by
          rw [n.size]
          simp only [putTm] at hp
          have := (bif_none hp).1
          simpa [Nat.blt_eq] using this
        rw [putT_get hlt]
        by_cases e : t = d
        · subst e; rw [if_pos rfl, if_pos rfl]; exact hv
        · rw [if_neg e, if_neg (fun h => e (Option.some.inj h).symm)]; exact h2.mono hext

theorem Mem.quiet (m : Mem P X base ops s E0 h0 w0 S E w) {i : Nat} (h1 : ∀ b, ¬ Al P base ops s i b) (h2 : ¬ Ef ops s i) : Mem P X base ops s E0 h0 w0 (fun j => S j ∨ j = i) E w := by
  obtain ⟨p, cur, a1, a2, ⟨b1, b2, b3⟩, a4, a5, a6, a7⟩ := m
  have hq : ∀ a b, Pnd P base ops s (fun j => S j ∨ j = i) p a b → Pnd P base ops s S p a b := fun a b ⟨g1, g2, g3⟩ => ⟨g1, by
    rcases g2 with g2 | rfl
    · exact g2
    · exact absurd g1 (h1 b), g3⟩
  refine ⟨p, cur, a1, fun e he => ?_, ⟨b1, fun a b h => b2 a b (hq a b h), fun c hc => b3 c fun a b h => hc a b ⟨h.1, .inl h.2.1, h.2.2⟩⟩, a4, a5, a6, a7⟩
  rw [← a2 e he]
  constructor
  · rintro (h | rfl)
    · exact h
    · exact absurd he h2
  · exact .inl

theorem Mem.alloc (m : Mem P X base ops s E0 h0 w0 S E w) (hb : h0.nx = base) (hcl : ∀ i j, S i → Anc ops i j → S j) {i : Nat} {b : Blk} (hal : Al P base ops s i b) (hS : ¬ S i) (hE : E (base + i) = none) {obj : Obj}
    (hx : BRel P X (E.upd (base + i) ⟨w.heap.size, 0, 0⟩) (World.laid w obj) ⟨w.heap.size, 0, 0⟩ b) :
    Mem P X base ops s E0 h0 w0 (fun j => S j ∨ j = i) (E.upd (base + i) ⟨w.heap.size, 0, 0⟩) (World.laid w obj) := by
  obtain ⟨p, cur, a1, a2, ⟨b1, b2, b3⟩, a4, a5, a6, a7⟩ := m
  have hi := hal.lt
  have hid : base + i < cur.nx := by omega
  have hput : ∀ c, (cur.putB (base + i) b).getB c = if c = base + i then some b else cur.getB c := fun c => Hp.getB_putB cur (base + i) c b
  have hnl : ¬ Laid ops s p i := fun ⟨e, g1, g2, g3⟩ => hS (hcl e i ((a2 e g1).2 g2) (bef_anc g3))
  refine ⟨p, cur.putB (base + i) b, a1, fun e he => ?_, ⟨by rw [Hp.nx_putB]; exact b1, fun a b' h => ?_, fun c hc => ?_⟩, a4, by rw [Hp.nx_putB]; exact a5, a6.lay hE hid hx (Hp.nx_putB ..) hput, a7.lay hx hE (by omega) hid (Hp.nx_putB ..) hput⟩
  · rw [← a2 e he]
    constructor
    · rintro (h | rfl)
      · exact h
      · exact absurd he hal.noEf
    · exact .inl
  · rw [hput]
    by_cases e : a = i
    · subst e; rw [if_pos rfl, hal.uniq h.1]
    · rw [if_neg (by omega)]
      refine b2 a b' ⟨h.1, ?_, h.2.2⟩
      rcases h.2.1 with h | h
      · exact h
      · exact absurd h e
  · rw [hput, if_neg (hc i b ⟨hal, .inr rfl, hnl⟩)]
    exact b3 c fun a b' h => hc a b' ⟨h.1, .inl h.2.1, h.2.2⟩

/-- The memory that an operation sees which changes memory, and what is known after it. -/
theorem Mem.eff (tr : Trk P cf cr nt base ops s v) (m : Mem P X base ops s E0 h0 w0 S E w) (hcl : ∀ i j, S i → Anc ops i j → S j) (hres : ∀ a, a < ops.length → ¬ S a → E (base + a) = none) {i : Nat} (he : Ef ops s i) (hS : ¬ S i) (ha : ∀ j, Anc ops i j → S j) :
    HRel P X E (layAll ((s i).pend.filter fun p => hasBit (befAt (befL ops []) i) p.1) (s i).hp) w ∧
    ∀ E' w', Evo E (layAll ((s i).pend.filter fun p => hasBit (befAt (befL ops []) i) p.1) (s i).hp) w E' (s (i + 1)).hp w' → HRel P X E' (s (i + 1)).hp w' →
      Mem P X base ops s E0 h0 w0 (fun j => S j ∨ j = i) E' w' ∧ ∀ a, a < ops.length → ¬ S a → a ≠ i → E' (base + a) = none := by
  obtain ⟨p, cur, a1, a2, hcur, a4, a5, a6, a7⟩ := m
  have hi := he.lt
  have hep : ∀ e, Ef ops s e → (e < p ↔ e < i) := fun e h => by
    constructor
    · intro h1
      by_cases e1 : e = i
      · subst e1; exact absurd ((a2 e he).2 h1) hS
      · by_cases e2 : i < e
        · exact absurd (hcl e i ((a2 e h).2 h1) (tr.chain h he e2)) hS
        · omega
    · intro h1
      exact (a2 e h).1 (ha e (tr.chain he h h1))
  have hhp : (s i).hp = (s p).hp := by
    by_cases hle : p ≤ i
    · exact tr.same i hle (by omega) fun e h1 h2 h => by have := (hep e h).2 h2; omega
    · exact (tr.same p (by omega) a1 fun e h1 h2 h => by have := (hep e h).1 h2; omega).symm
  have hlaid : ∀ a, Laid ops s p a ↔ Laid ops s i a := fun a =>
    ⟨fun ⟨e, g1, g2, g3⟩ => ⟨e, g1, (hep e g1).1 g2, g3⟩, fun ⟨e, g1, g2, g3⟩ => ⟨e, g1, (hep e g1).2 g2, g3⟩⟩
  have hlaid' : ∀ a, ¬ Laid ops s (i + 1) a → ¬ Laid ops s p a ∧ hasBit (befAt (befL ops []) i) a = false := fun a h => by
    refine ⟨fun h1 => ?_, ?_⟩
    · obtain ⟨e, g1, g2, g3⟩ := (hlaid a).1 h1
      exact h ⟨e, g1, by omega, g3⟩
    · cases hb : hasBit (befAt (befL ops []) i) a with
      | false => rfl
      | true => exact absurd ⟨i, he, by omega, hb⟩ h
  have hsm := lay_cur tr (Nat.le_of_lt hi) (hasBit (befAt (befL ops []) i))
  generalize hsmall : layAll ((s i).pend.filter fun p => hasBit (befAt (befL ops []) i) p.1) (s i).hp = small at hsm ⊢
  have hsub : ∀ b x, small.getB b = some x → cur.getB b = some x := fun b x hb => by
    rcases hsm.cases hb with ⟨a, h1, rfl⟩ | ⟨h1, h2⟩
    · exact hcur.2.1 a x ⟨h1.1, ha a (bef_anc h1.2.2.1), fun h => h1.2.2.2 ((hlaid a).1 h)⟩
    · rw [hhp] at h2
      by_cases hq : ∃ a b', Pnd P base ops s S p a b' ∧ b = base + a
      · obtain ⟨a, b', g1, rfl⟩ := hq
        rw [a4 a b' g1.1 g1.2.2] at h2; cases h2
      · rw [hcur.2.2 b fun a b' g1 g2 => hq ⟨a, b', g1, g2⟩]
        exact h2
  have hnx : small.nx = cur.nx := by rw [hsm.1, hcur.1, hhp]
  have hout : ∀ a b, Al P base ops s a b → ¬ Laid ops s (i + 1) a → small.getB (base + a) = none := fun a b h1 h2 => by
    obtain ⟨h3, h4⟩ := hlaid' a h2
    have hno : ∀ a' b', (Al P base ops s a' b' ∧ a' < i ∧ hasBit (befAt (befL ops []) i) a' = true ∧ ¬ Laid ops s i a') → base + a ≠ base + a' := fun a' b' h5 h6 => by
      have : a = a' := by omega
      subst this
      have h7 := h5.2.2.1
      rw [h4] at h7; cases h7
    rw [hsm.2.2 _ hno, hhp]
    exact a4 a b h1 h3
  refine ⟨a6.less hsub hnx, fun E' w' ev hr' => ?_⟩
  have hnx' := ev.nx
  obtain ⟨cur', hc'⟩ := IsCur.exist (Q := Pnd P base ops s (fun j => S j ∨ j = i) (i + 1)) (fun a b b' h h' => h.1.uniq h'.1) base (s (i + 1)).hp ops.length
  have hc' : IsCur (Pnd P base ops s (fun j => S j ∨ j = i) (i + 1)) base (s (i + 1)).hp cur' :=
    ⟨hc'.1, fun a b h => hc'.2.1 a b ⟨h.1.lt, h⟩, fun c h => hc'.2.2 c fun a b h' => h a b h'.2⟩
  have hparts : ∀ b x, cur'.getB b = some x → (cur.getB b = some x ∧ small.getB b = none) ∨ (s (i + 1)).hp.getB b = some x := fun b x hb => by
    rcases hc'.cases hb with ⟨a, h1, rfl⟩ | ⟨_, h2⟩
    · refine .inl ⟨hcur.2.1 a x ⟨h1.1, ?_, (hlaid' a h1.2.2).1⟩, hout a x h1.1 h1.2.2⟩
      rcases h1.2.1 with h | rfl
      · exact h
      · exact absurd he h1.1.noEf
    · exact .inr h2
  have hnone : ∀ a, a < ops.length → ¬ S a → E' (base + a) = none := fun a h1 h2 => by
    cases hE : E' (base + a) with
    | none => rfl
    | some ad => have := ev.new _ ad hE (hres a h1 h2); omega
  refine ⟨⟨i + 1, cur', by omega, fun e h => ?_, hc', fun a b h1 h2 => ?_, by rw [hc'.1]; omega, a6.keep hsub hnx ev hr' hc'.1 hparts, a7.keep a6 hsub hnx ev hc'.1 hparts⟩, fun a h1 h2 _ => hnone a h1 h2⟩
  · constructor
    · rintro (h1 | rfl)
      · have := (hep e h).1 ((a2 e h).1 h1); omega
      · omega
    · intro h1
      by_cases e1 : e = i
      · exact .inr e1
      · exact .inl ((a2 e h).2 ((hep e h).2 (by omega)))
  · cases hg : (s (i + 1)).hp.getB (base + a) with
    | none => rfl
    | some x' =>
      by_cases hSa : S a
      · have hcb := hcur.2.1 a b ⟨h1, hSa, (hlaid' a h2).1⟩
        obtain ⟨ad, g1, g2⟩ := a6.blk _ _ hcb
        rcases ev.image ad.blk ⟨_, x', ad, hg, ev.ext _ _ g1, rfl⟩ with ⟨b0, x0, ad0, k1, k2, k3⟩ | k
        · have := a6.inj b0 (base + a) x0 b ad0 ad (hsub _ _ k1) hcb k2 g1 k3
          subst this
          rw [hout a b h1 h2] at k1; cases k1
        · have := a6.bound _ _ g1; omega
      · obtain ⟨ad, g1, _⟩ := hr'.blk _ _ hg
        rw [hnone a h1.lt hSa] at g1; cases g1
end
end Go.Abs
