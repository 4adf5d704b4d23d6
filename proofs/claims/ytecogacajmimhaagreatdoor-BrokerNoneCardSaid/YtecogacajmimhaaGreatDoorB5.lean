/-
  THE EVALUATOR's SOUNDNESS, 14: what is known of a region's way in the text's order.
-/
import Derived.Test.YtecogacajmimhaaGreatDoorB4
namespace Go.Abs

inductive RgStep (P : Program) (cf cr : Caller) (base bi i : Nat) (all : List Oper) (o : Oper) (a : Rg) : Rg → Value → Prop
  | skip {tm : Tr Value} (hw : wants all a.tm o.guard = some false) : RgStep P cf cr base bi i all o a { a with tm } (.tuple #[])
  | pure {tm : Tr Value} {v : Value} {f : PureK} (hw : wants all a.tm o.guard = some true) (hc : cls o.op = .pure f ∨ ∃ g, cls o.op = .slc f g) (hv : f P (tmOf a.tm) = some v) :
      RgStep P cf cr base bi i all o a { a with tm } v
  | read {tm : Tr Value} {v : Value} {f : ReadK} (hw : wants all a.tm o.guard = some true) (hc : cls o.op = .read f) (hv : f P (tmOf a.tm) a.hp = some v) (he : earlier P f (tmOf a.tm) v bi a.seen a.effs = true) :
      RgStep P cf cr base bi i all o a { a with tm, reads := ⟨i, f, a.tm, v⟩ :: a.reads } v
  | alloc {tm : Tr Value} {v : Value} {b : Blk} {f : AllocK} (hw : wants all a.tm o.guard = some true) (hc : cls o.op = .alloc f) (hv : f P (tmOf a.tm) (base + i) = some (v, b)) :
      RgStep P cf cr base bi i all o a { a with tm, pend := a.pend ++ [(i, base + i, b)] } v
  | eff {tm : Tr Value} {v : Value} {h : Hp} {f : EffK} (hw : wants all a.tm o.guard = some true) (hc : cls o.op = .eff f) (hch : (match a.effs with | [] => true | e :: _ => hasBit bi e) = true)
      (hv : f P cf cr (tmOf a.tm) (layAll (a.pend.filter fun p => hasBit bi p.1) a.hp) = some (v, h)) (hr : ∀ q ∈ a.reads, hasBit bi q.at_ = false → checkRead P q.f (tmOf q.tm) q.v h = true) :
      RgStep P cf cr base bi i all o a { tm, hp := h, seen := a.hp :: a.seen, effs := i :: a.effs, pend := a.pend.filter fun p => !hasBit bi p.1, reads := a.reads.filter fun r => !hasBit bi r.at_ } v

noncomputable def rgOne (P : Program) (cf cr : Caller) (nt base : Nat) (all : List Oper) (bef : List Nat) (i : Nat) (o : Oper) (s : Rg) : Option Rg :=
  (wants all s.tm o.guard).bind fun b => bif b then rgOp P cf cr nt base (befAt bef i) i o.dst s (cls o.op)
    else (putTm nt s.tm o.dst (.tuple #[])).bind fun tm => some { s with tm }

theorem bif_none {α : Type} {c : Bool} {x : Option α} {b : α} (h : (bif c then x else none) = some b) : c = true ∧ x = some b := by
  cases c with
  | true => exact ⟨rfl, h⟩
  | false => cases h

section
variable {P : Program} {cf cr : Caller} {nt base : Nat} {ops : List Oper}

theorem rgOne_inv {bef : List Nat} {i : Nat} {o : Oper} {a b : Rg} (h : rgOne P cf cr nt base ops bef i o a = some b) :
    ∃ v, putTm nt a.tm o.dst v = some b.tm ∧ RgStep P cf cr base (befAt bef i) i ops o a b v := by
  unfold rgOne at h
  obtain ⟨w, hw, h⟩ := Option.bind_eq_some_iff.1 h
  cases w with
  | false =>
    rw [cond_false] at h
    obtain ⟨tm, hp, h⟩ := Option.bind_eq_some_iff.1 h
    cases h
    exact ⟨_, hp, .skip hw⟩
  | true =>
    rw [cond_true] at h
    cases hc : cls o.op with
    | pure f =>
      rw [hc] at h
      obtain ⟨v, hv, h⟩ := Option.bind_eq_some_iff.1 h
      obtain ⟨tm, hp, h⟩ := Option.bind_eq_some_iff.1 h
      cases h
      exact ⟨v, hp, .pure hw (.inl hc) hv⟩
    | slc f g =>
      rw [hc] at h
      obtain ⟨v, hv, h⟩ := Option.bind_eq_some_iff.1 h
      obtain ⟨tm, hp, h⟩ := Option.bind_eq_some_iff.1 h
      cases h
      exact ⟨v, hp, .pure hw (.inr ⟨g, hc⟩) hv⟩
    | read f =>
      rw [hc] at h
      obtain ⟨v, hv, h⟩ := Option.bind_eq_some_iff.1 h
      cases he : earlier P f (tmOf a.tm) v (befAt bef i) a.seen a.effs with
      | false => rw [he] at h; cases h
      | true =>
        rw [he, cond_true] at h
        obtain ⟨tm, hp, h⟩ := Option.bind_eq_some_iff.1 h
        cases h
        exact ⟨v, hp, .read hw hc hv he⟩
    | alloc f =>
      rw [hc] at h
      obtain ⟨⟨v, bl⟩, hv, h⟩ := Option.bind_eq_some_iff.1 h
      obtain ⟨tm, hp, h⟩ := Option.bind_eq_some_iff.1 h
      cases h
      exact ⟨v, hp, .alloc hw hc hv⟩
    | eff f =>
      rw [hc] at h
      have h : rgEff P cf cr nt (befAt bef i) i o.dst a f = some b := h
      unfold rgEff at h
      obtain ⟨hch, h⟩ := bif_none h
      obtain ⟨⟨v, h'⟩, hv, h⟩ := Option.bind_eq_some_iff.1 h
      simp only [] at h
      obtain ⟨hall, h⟩ := bif_none h
      obtain ⟨tm, hp, h⟩ := Option.bind_eq_some_iff.1 h
      cases h
      refine ⟨v, hp, .eff hw hc hch hv fun q hq hb => ?_⟩
      exact List.all_eq_true.1 hall q (List.mem_filter.2 ⟨hq, by rw [hb]; rfl⟩)
    | bad => rw [hc] at h; cases h

/-- The states on the way. -/
theorem rgOps_trace {bef : List Nat} : ∀ (os : List Oper) (i : Nat) (a z : Rg), rgOps P cf cr nt base ops bef os i a = some z →
    ∃ s : Nat → Rg, s i = a ∧ s (i + os.length) = z ∧ ∀ j o, os[j]? = some o → rgOne P cf cr nt base ops bef (i + j) o (s (i + j)) = some (s (i + j + 1))
  | [], i, a, z, h => by
    cases h
    exact ⟨fun _ => a, rfl, rfl, fun j o hj => by simp at hj⟩
  | o :: os, i, a, z, h => by
    have h : ((wants ops a.tm o.guard).bind fun b => bif b then
        (rgOp P cf cr nt base ((nth bef i).getD 0) i o.dst a (cls o.op)).bind fun s' => rgOps P cf cr nt base ops bef os (Nat.succ i) s'
      else (putTm nt a.tm o.dst (.tuple #[])).bind fun tm => rgOps P cf cr nt base ops bef os (Nat.succ i) { a with tm }) = some z := h
    have : ∃ b, rgOne P cf cr nt base ops bef i o a = some b ∧ rgOps P cf cr nt base ops bef os (i + 1) b = some z := by
      unfold rgOne
      obtain ⟨w, hw, h⟩ := Option.bind_eq_some_iff.1 h
      rw [hw, Option.bind_some]
      cases w with
      | false =>
        rw [cond_false] at h ⊢
        obtain ⟨tm, hp, h⟩ := Option.bind_eq_some_iff.1 h
        rw [hp, Option.bind_some]
        exact ⟨_, rfl, h⟩
      | true =>
        rw [cond_true] at h ⊢
        obtain ⟨b, hb, h⟩ := Option.bind_eq_some_iff.1 h
        exact ⟨b, hb, h⟩
    obtain ⟨b, h1, h2⟩ := this
    obtain ⟨s, e1, e2, e3⟩ := rgOps_trace os (i + 1) b z h2
    refine ⟨fun m => if m = i then a else s m, if_pos rfl, ?_, fun j q hj => ?_⟩
    · show (if i + (o :: os).length = i then a else s (i + (o :: os).length)) = z
      rw [if_neg (by simp), List.length_cons, show i + (os.length + 1) = i + 1 + os.length by omega]
      exact e2
    · cases j with
      | zero =>
        cases hj
        show rgOne P cf cr nt base ops bef i o (if i = i then a else s i) = some (if i + 1 = i then a else s (i + 1))
        rw [if_pos rfl, if_neg (by omega), e1]
        exact h1
      | succ j =>
        show rgOne P cf cr nt base ops bef (i + (j + 1)) q (if i + (j + 1) = i then a else s (i + (j + 1))) = some (if i + (j + 1) + 1 = i then a else s (i + (j + 1) + 1))
        rw [if_neg (by omega), if_neg (by omega)]
        have := e3 j q (by simpa using hj)
        rw [show i + (j + 1) = i + 1 + j by omega]
        exact this

/-- A region's way. -/
structure Trk (P : Program) (cf cr : Caller) (nt base : Nat) (ops : List Oper) (s : Nat → Rg) (v : Nat → Value) : Prop where
  edges : edgesOk ops 0 = true
  tmps : tmpsOk ops (befL ops []) ops 0 = true
  effs0 : (s 0).effs = []
  pend0 : (s 0).pend = []
  seen0 : (s 0).seen = []
  step : ∀ i o, ops[i]? = some o → putTm nt (s i).tm o.dst (v i) = some (s (i + 1)).tm ∧ RgStep P cf cr base (befAt (befL ops []) i) i ops o (s i) (s (i + 1)) (v i)

def Ef (ops : List Oper) (s : Nat → Rg) (e : Nat) : Prop := ∃ o f, ops[e]? = some o ∧ wants ops (s e).tm o.guard = some true ∧ cls o.op = .eff f
def Al (P : Program) (base : Nat) (ops : List Oper) (s : Nat → Rg) (a : Nat) (b : Blk) : Prop :=
  ∃ o f v, ops[a]? = some o ∧ wants ops (s a).tm o.guard = some true ∧ cls o.op = .alloc f ∧ f P (tmOf (s a).tm) (base + a) = some (v, b)
def Laid (ops : List Oper) (s : Nat → Rg) (i a : Nat) : Prop := ∃ e, Ef ops s e ∧ e < i ∧ hasBit (befAt (befL ops []) e) a = true

variable {s : Nat → Rg} {v : Nat → Value}

theorem Al.uniq {a : Nat} {b b' : Blk} (h : Al P base ops s a b) (h' : Al P base ops s a b') : b = b' := by
  obtain ⟨o, f, u, h1, _, h3, h4⟩ := h
  obtain ⟨o', f', u', h1', _, h3', h4'⟩ := h'
  rw [h1] at h1'; cases h1'
  rw [h3] at h3'; cases h3'
  rw [h4] at h4'; cases h4'; rfl
theorem Al.noEf {a : Nat} {b : Blk} (h : Al P base ops s a b) : ¬ Ef ops s a := fun h' => by
  obtain ⟨o, f, u, h1, _, h3, h4⟩ := h
  obtain ⟨o', f', h1', _, h3'⟩ := h'
  rw [h1] at h1'; cases h1'
  rw [h3] at h3'; cases h3'
theorem Al.lt {a : Nat} {b : Blk} (h : Al P base ops s a b) : a < ops.length := by
  obtain ⟨o, f, u, h1, _⟩ := h
  exact (List.getElem?_eq_some_iff.1 h1).1
theorem Ef.lt {a : Nat} (h : Ef ops s a) : a < ops.length := by
  obtain ⟨o, f, h1, _⟩ := h
  exact (List.getElem?_eq_some_iff.1 h1).1
theorem Ef.of {i : Nat} {o : Oper} (ho : ops[i]? = some o) {f : EffK} (hw : wants ops (s i).tm o.guard = some true) (hc : cls o.op = .eff f) : Ef ops s i := ⟨o, f, ho, hw, hc⟩
theorem noEf_w {i : Nat} {o : Oper} (ho : ops[i]? = some o) (hw : wants ops (s i).tm o.guard = some false) : ¬ Ef ops s i := fun ⟨o', f, h1, h2, _⟩ => by
  rw [ho] at h1; cases h1
  rw [hw] at h2; cases h2
theorem noAl_w {i : Nat} {o : Oper} {b : Blk} (ho : ops[i]? = some o) (hw : wants ops (s i).tm o.guard = some false) : ¬ Al P base ops s i b := fun ⟨o', f, _, h1, h2, _⟩ => by
  rw [ho] at h1; cases h1
  rw [hw] at h2; cases h2
theorem noEf_c {i : Nat} {o : Oper} (ho : ops[i]? = some o) (hc : ∀ f, cls o.op ≠ .eff f) : ¬ Ef ops s i := fun ⟨o', f, h1, _, h2⟩ => by
  rw [ho] at h1; cases h1
  exact hc f h2
theorem noAl_c {i : Nat} {o : Oper} {b : Blk} (ho : ops[i]? = some o) (hc : ∀ f, cls o.op ≠ .alloc f) : ¬ Al P base ops s i b := fun ⟨o', f, _, h1, _, h2, _⟩ => by
  rw [ho] at h1; cases h1
  exact hc f h2
theorem pure_c {o : Oper} {f : PureK} (hc : cls o.op = .pure f ∨ ∃ g, cls o.op = .slc f g) : (∀ f, cls o.op ≠ .eff f) ∧ (∀ f, cls o.op ≠ .alloc f) := by
  rcases hc with hc | ⟨g, hc⟩ <;> rw [hc] <;> exact ⟨(fun _ h => by cases h), (fun _ h => by cases h)⟩
theorem read_c {o : Oper} {f : ReadK} (hc : cls o.op = .read f) : (∀ f, cls o.op ≠ .eff f) ∧ (∀ f, cls o.op ≠ .alloc f) := by
  rw [hc]; exact ⟨(fun _ h => by cases h), (fun _ h => by cases h)⟩

theorem Trk.lt_get (i : Nat) (h : i < ops.length) : ∃ o, ops[i]? = some o := ⟨ops[i], List.getElem?_eq_getElem h⟩

theorem Trk.quiet (tr : Trk P cf cr nt base ops s v) {i : Nat} (hi : i < ops.length) (he : ¬ Ef ops s i) : (s (i + 1)).hp = (s i).hp ∧ (s (i + 1)).effs = (s i).effs ∧ (s (i + 1)).seen = (s i).seen ∧ ∀ r ∈ (s i).reads, r ∈ (s (i + 1)).reads := by
  obtain ⟨o, ho⟩ := Trk.lt_get i hi
  obtain ⟨_, h⟩ := tr.step i o ho
  generalize hz : s (i + 1) = z at h
  generalize v i = u at h
  cases h with
  | skip => exact ⟨rfl, rfl, rfl, fun r h => h⟩
  | pure => exact ⟨rfl, rfl, rfl, fun r h => h⟩
  | read => exact ⟨rfl, rfl, rfl, fun r h => List.mem_cons_of_mem _ h⟩
  | alloc => exact ⟨rfl, rfl, rfl, fun r h => h⟩
  | eff hw hc => exact absurd (Ef.of ho hw hc) he

theorem Trk.loud (tr : Trk P cf cr nt base ops s v) {i : Nat} (he : Ef ops s i) : ∃ o f, ops[i]? = some o ∧ wants ops (s i).tm o.guard = some true ∧ cls o.op = .eff f ∧
    (match (s i).effs with | [] => true | e :: _ => hasBit (befAt (befL ops []) i) e) = true ∧
    f P cf cr (tmOf (s i).tm) (layAll ((s i).pend.filter fun p => hasBit (befAt (befL ops []) i) p.1) (s i).hp) = some (v i, (s (i + 1)).hp) ∧
    (∀ q ∈ (s i).reads, hasBit (befAt (befL ops []) i) q.at_ = false → checkRead P q.f (tmOf q.tm) q.v (s (i + 1)).hp = true) ∧
    (s (i + 1)).seen = (s i).hp :: (s i).seen ∧ (s (i + 1)).effs = i :: (s i).effs ∧ (s (i + 1)).pend = ((s i).pend.filter fun p => !hasBit (befAt (befL ops []) i) p.1) ∧
    (s (i + 1)).reads = ((s i).reads.filter fun r => !hasBit (befAt (befL ops []) i) r.at_) := by
  obtain ⟨o, ho⟩ := Trk.lt_get i he.lt
  obtain ⟨_, h⟩ := tr.step i o ho
  generalize hz : s (i + 1) = z at h
  generalize hu : v i = u at h
  cases h with
  | skip hw => exact absurd he (noEf_w ho hw)
  | pure _ hc => exact absurd he (noEf_c ho (pure_c hc).1)
  | read _ hc => exact absurd he (noEf_c ho (read_c hc).1)
  | alloc _ hc => exact absurd he (noEf_c ho (by rw [hc]; exact fun _ h => by cases h))
  | @eff tm u h f hw hc hch hv hr => exact ⟨o, f, ho, hw, hc, hch, hv, hr, rfl, rfl, rfl, rfl⟩

theorem Trk.effs (tr : Trk P cf cr nt base ops s v) : ∀ i, i ≤ ops.length → (∀ e, e ∈ (s i).effs ↔ e < i ∧ Ef ops s e) ∧ (s i).effs.Pairwise (Anc ops)
  | 0, _ => by rw [tr.effs0]; exact ⟨fun e => by simp, .nil⟩
  | i + 1, hi => by
    obtain ⟨h1, h2⟩ := Trk.effs tr i (by omega)
    by_cases he : Ef ops s i
    · obtain ⟨o, f, _, _, _, hch, _, _, _, hs, _, _⟩ := tr.loud he
      rw [hs]
      refine ⟨fun e => ?_, List.Pairwise.cons (fun e' h' => ?_) h2⟩
      · rw [List.mem_cons, h1]
        constructor
        · rintro (rfl | ⟨h, h'⟩)
          · exact ⟨by omega, he⟩
          · exact ⟨by omega, h'⟩
        · rintro ⟨h, h'⟩
          by_cases e : e = i
          · exact .inl e
          · exact .inr ⟨by omega, h'⟩
      · cases hl : (s i).effs with
        | nil => rw [hl] at h'; cases h'
        | cons e1 rest =>
          rw [hl] at hch h' h2
          have ha := bef_anc (ops := ops) hch
          rcases List.mem_cons.1 h' with rfl | h'
          · exact ha
          · cases h2 with
            | cons h3 _ => exact ha.trans (h3 e' h')
    · obtain ⟨_, hs, _⟩ := tr.quiet (by omega) he
      rw [hs]
      refine ⟨fun e => ?_, h2⟩
      rw [h1]
      constructor
      · rintro ⟨h, h'⟩; exact ⟨by omega, h'⟩
      · rintro ⟨h, h'⟩
        refine ⟨?_, h'⟩
        by_cases e1 : e = i
        · subst e1; exact absurd h' he
        · omega

/-- What changes memory stands in a row. -/
theorem Trk.chain (tr : Trk P cf cr nt base ops s v) {e e' : Nat} (he : Ef ops s e) (he' : Ef ops s e') (h : e' < e) : Anc ops e e' := by
  obtain ⟨h1, h2⟩ := tr.effs (e + 1) he.lt
  obtain ⟨o, f, _, _, _, hch, _, _, _, hs, _, _⟩ := tr.loud he
  rw [hs] at h2
  cases h2 with
  | cons h3 _ => exact h3 e' ((tr.effs e (Nat.le_of_lt he.lt)).1 e' |>.2 ⟨h, he'⟩)

theorem Trk.same (tr : Trk P cf cr nt base ops s v) {p : Nat} : ∀ q, p ≤ q → q ≤ ops.length → (∀ e, p ≤ e → e < q → ¬ Ef ops s e) → (s q).hp = (s p).hp
  | 0, h, _, _ => by
    have : p = 0 := by omega
    rw [this]
  | q + 1, h, hq, hn => by
    by_cases e : p = q + 1
    · rw [e]
    · rw [(tr.quiet (by omega) (hn q (by omega) (by omega))).1]
      exact Trk.same tr q (by omega) (by omega) fun e h1 h2 => hn e h1 (by omega)

theorem Trk.pend (tr : Trk P cf cr nt base ops s v) : ∀ i, i ≤ ops.length → ∀ a id b, (a, id, b) ∈ (s i).pend ↔ a < i ∧ id = base + a ∧ Al P base ops s a b ∧ ¬ Laid ops s i a
  | 0, _, a, id, b => by rw [tr.pend0]; simp
  | i + 1, hi, a, id, b => by
    have ih := Trk.pend tr i (by omega) a id b
    have laidq : ¬ Ef ops s i → (Laid ops s (i + 1) a ↔ Laid ops s i a) := fun he => by
      constructor
      · rintro ⟨e, h1, h2, h3⟩
        refine ⟨e, h1, ?_, h3⟩
        by_cases e1 : e = i
        · subst e1; exact absurd h1 he
        · omega
      · rintro ⟨e, h1, h2, h3⟩; exact ⟨e, h1, by omega, h3⟩
    have noal : ¬ Ef ops s i → (∀ b, ¬ Al P base ops s i b) → (s (i + 1)).pend = (s i).pend → ((a, id, b) ∈ (s (i + 1)).pend ↔ a < i + 1 ∧ id = base + a ∧ Al P base ops s a b ∧ ¬ Laid ops s (i + 1) a) := fun he ha hp => by
      rw [hp, ih, laidq he]
      constructor
      · rintro ⟨h1, h2⟩; exact ⟨by omega, h2⟩
      · rintro ⟨h1, h2, h3, h4⟩
        refine ⟨?_, h2, h3, h4⟩
        by_cases e1 : a = i
        · subst e1; exact absurd h3 (ha b)
        · omega
    by_cases he : Ef ops s i
    · obtain ⟨o, f, _, _, _, _, _, _, _, _, hs, _⟩ := tr.loud he
      rw [hs, List.mem_filter, ih]
      constructor
      · rintro ⟨⟨h1, h2, h3, h4⟩, h5⟩
        refine ⟨by omega, h2, h3, fun ⟨e, g1, g2, g3⟩ => ?_⟩
        by_cases e1 : e = i
        · subst e1; simp only [g3] at h5; cases h5
        · exact h4 ⟨e, g1, by omega, g3⟩
      · rintro ⟨h1, h2, h3, h4⟩
        refine ⟨⟨?_, h2, h3, fun ⟨e, g1, g2, g3⟩ => h4 ⟨e, g1, by omega, g3⟩⟩, ?_⟩
        · by_cases e1 : a = i
          · subst e1; exact absurd he h3.noEf
          · omega
        · cases hb : hasBit (befAt (befL ops []) i) a with
          | false => rfl
          | true => exact absurd ⟨i, he, by omega, hb⟩ h4
    · obtain ⟨o, ho⟩ := Trk.lt_get i (show i < ops.length by omega)
      obtain ⟨_, h⟩ := tr.step i o ho
      generalize hz : s (i + 1) = z at h
      generalize v i = u at h
      cases h with
      | skip hw => rw [← hz]; exact noal he (fun b => noAl_w ho hw) (by rw [hz])
      | pure hw hc => rw [← hz]; exact noal he (fun b => noAl_c ho (pure_c hc).2) (by rw [hz])
      | read hw hc => rw [← hz]; exact noal he (fun b => noAl_c ho (read_c hc).2) (by rw [hz])
      | @alloc tm u b' f hw hc hv =>
        have hal : Al P base ops s i b' := ⟨o, f, u, ho, hw, hc, hv⟩
        simp only [List.mem_append, List.mem_singleton, Prod.mk.injEq]
        rw [ih, laidq he]
        constructor
        · rintro (⟨h1, h2⟩ | ⟨rfl, rfl, rfl⟩)
          · exact ⟨by omega, h2⟩
          · refine ⟨by omega, rfl, hal, fun ⟨e, g1, g2, g3⟩ => ?_⟩
            have := (bef_anc (ops := ops) g3).lt tr.edges
            omega
        · rintro ⟨h1, h2, h3, h4⟩
          by_cases e1 : a = i
          · subst e1
            exact .inr ⟨rfl, h2, h3.uniq hal⟩
          · exact .inl ⟨by omega, h2, h3, h4⟩
      | eff hw hc => exact absurd (Ef.of ho hw hc) he

/-! ### Two values that are the same to the sign -/
theorem sameS_eq {x y : Value} (h : sameS x y = true) : x = y := by
  unfold sameS at h
  split at h <;> (try simp only [Bool.and_eq_true, beq_iff_eq, Nat.beq_eq] at h)
  · rw [h]
  · have h2 := h.2
    rw [ieq_eq, beq_iff_eq] at h2
    rw [keq_eq h.1, h2]
  · rfl
  · rw [h.1, h.2]
  · rw [h.1, h.2]
  · rw [h.1.1.1, h.1.1.2, h.1.2, h.2]
  · rfl
  · rw [h]
  · rfl
  · cases h
theorem sameL_eq : ∀ {xs ys : List Value}, sameL xs ys = true → xs = ys
  | [], [], _ => rfl
  | x :: xs, y :: ys, h => by
    simp only [sameL, Bool.and_eq_true] at h
    rw [sameS_eq h.1, sameL_eq h.2]
  | [], _ :: _, h => by cases h
  | _ :: _, [], h => by cases h
theorem sameV_eq {x y : Value} (h : sameV x y = true) : x = y := by
  unfold sameV at h
  split at h
  · exact congrArg _ (Array.ext' (sameL_eq h))
  · exact congrArg _ (Array.ext' (sameL_eq h))
  · exact sameS_eq h
theorem checkRead_eq {f : ReadK} {ρ : Env} {u : Value} {h : Hp} (hc : checkRead P f ρ u h = true) : f P ρ h = some u := by
  unfold checkRead at hc
  split at hc
  · rename_i x hx
    rw [hx, sameV_eq hc]
  · cases hc

/-! ### A read answers the same wherever it may stand -/
theorem Trk.readUp (tr : Trk P cf cr nt base ops s v) {i : Nat} {o : Oper} {f : ReadK} (ho : ops[i]? = some o) (hw : wants ops (s i).tm o.guard = some true) (hc : cls o.op = .read f) :
    ∀ p, i < p → p ≤ ops.length → (∀ e, Ef ops s e → i < e → e < p → hasBit (befAt (befL ops []) e) i = false) →
      f P (tmOf (s i).tm) (s p).hp = some (v i) ∧ (⟨i, f, (s i).tm, v i⟩ : Rd) ∈ (s p).reads
  | 0, h, _, _ => by omega
  | p + 1, h, hp, hn => by
    by_cases e : p = i
    · subst e
      obtain ⟨_, h⟩ := tr.step p o ho
      generalize hz : s (p + 1) = z at h
      generalize v p = u at h ⊢
      cases h with
      | skip hw' => rw [hw] at hw'; cases hw'
      | pure _ hc' => rcases hc' with hc' | ⟨g, hc'⟩ <;> rw [hc] at hc' <;> cases hc'
      | read _ hc' hv => rw [hc] at hc'; cases hc'; exact ⟨hv, List.mem_cons_self⟩
      | alloc _ hc' => rw [hc] at hc'; cases hc'
      | eff _ hc' => rw [hc] at hc'; cases hc'
    · obtain ⟨h1, h2⟩ := Trk.readUp tr ho hw hc p (by omega) (by omega) fun e g1 g2 g3 => hn e g1 g2 (by omega)
      by_cases he : Ef ops s p
      · obtain ⟨_, _, _, _, _, _, _, hr, _, _, _, hs⟩ := tr.loud he
        have hb := hn p he (by omega) (by omega)
        exact ⟨checkRead_eq (hr _ h2 hb), by rw [hs]; exact List.mem_filter.2 ⟨h2, by simp [hb]⟩⟩
      · obtain ⟨g1, _, _, g4⟩ := tr.quiet (by omega) he
        exact ⟨by rw [g1]; exact h1, g4 _ h2⟩

theorem Trk.readDown (tr : Trk P cf cr nt base ops s v) {f : ReadK} {ρ : Env} {u : Value} {bi : Nat} : ∀ q, q ≤ ops.length → earlier P f ρ u bi (s q).seen (s q).effs = true →
    ∀ p, p ≤ q → (∀ e, Ef ops s e → p ≤ e → e < q → hasBit bi e = false) → f P ρ (s p).hp = some u ∨ (s p).hp = (s q).hp
  | 0, _, _, p, hp, _ => by
    have : p = 0 := by omega
    rw [this]; exact .inr rfl
  | q + 1, hq, he, p, hp, hn => by
    by_cases e : p = q + 1
    · rw [e]; exact .inr rfl
    · by_cases hq' : Ef ops s q
      · obtain ⟨_, _, _, _, _, _, _, _, hs1, hs2, _, _⟩ := tr.loud hq'
        rw [hs1, hs2] at he
        simp only [earlier, hn q hq' (by omega) (by omega), cond_false, Bool.and_eq_true] at he
        rcases Trk.readDown tr q (by omega) he.2 p (by omega) fun e g1 g2 g3 => hn e g1 g2 (by omega) with h | h
        · exact .inl h
        · rw [h]; exact .inl (checkRead_eq he.1)
      · obtain ⟨g1, g2, g3, _⟩ := tr.quiet (by omega) hq'
        rw [g2, g3] at he
        rw [g1]
        exact Trk.readDown tr q (by omega) he p (by omega) fun e g1 g2 g3 => hn e g1 g2 (by omega)

theorem Trk.read (tr : Trk P cf cr nt base ops s v) {i : Nat} {o : Oper} {f : ReadK} (ho : ops[i]? = some o) (hw : wants ops (s i).tm o.guard = some true) (hc : cls o.op = .read f)
    {p : Nat} (hp : p ≤ ops.length) (h1 : ∀ e, Ef ops s e → i < e → e < p → hasBit (befAt (befL ops []) e) i = false) (h2 : ∀ e, Ef ops s e → p ≤ e → e < i → hasBit (befAt (befL ops []) i) e = false) :
    f P (tmOf (s i).tm) (s p).hp = some (v i) := by
  by_cases hlt : i < p
  · exact (tr.readUp ho hw hc p hlt hp h1).1
  · have hi : i < ops.length := (List.getElem?_eq_some_iff.1 ho).1
    have : f P (tmOf (s i).tm) (s i).hp = some (v i) ∧ earlier P f (tmOf (s i).tm) (v i) (befAt (befL ops []) i) (s i).seen (s i).effs = true := by
      obtain ⟨_, h⟩ := tr.step i o ho
      generalize hz : s (i + 1) = z at h
      generalize v i = u at h ⊢
      cases h with
      | skip hw' => rw [hw] at hw'; cases hw'
      | pure _ hc' => rcases hc' with hc' | ⟨g, hc'⟩ <;> rw [hc] at hc' <;> cases hc'
      | read _ hc' hv he => rw [hc] at hc'; cases hc'; exact ⟨hv, he⟩
      | alloc _ hc' => rw [hc] at hc'; cases hc'
      | eff _ hc' => rw [hc] at hc'; cases hc'
    rcases tr.readDown i (by omega) this.2 p (by omega) h2 with h | h
    · exact h
    · rw [h]; exact this.1

/-! ### Places -/
/-- What stands at a place when the operations of S are done. -/
def CurVal (ops : List Oper) (tm0 : Tr Value) (v : Nat → Value) (S : Nat → Prop) (t : Tmp) (u : Value) : Prop :=
  (∃ j o, S j ∧ ops[j]? = some o ∧ o.dst = some t ∧ u = v j ∧ ∀ j' o', S j' → ops[j']? = some o' → o'.dst = some t → j' ≤ j) ∨
  ((∀ j o, S j → ops[j]? = some o → o.dst ≠ some t) ∧ u = tmOf tm0 (.tmp t))

theorem CurVal.congr {tm0 : Tr Value} {S S' : Nat → Prop} {t : Tmp} {u : Value} (h : CurVal ops tm0 v S t u) (hs : ∀ j o, ops[j]? = some o → o.dst = some t → (S j ↔ S' j)) : CurVal ops tm0 v S' t u := by
  rcases h with ⟨j, o, h1, h2, h3, h4, h5⟩ | ⟨h1, h2⟩
  · exact .inl ⟨j, o, (hs j o h2 h3).1 h1, h2, h3, h4, fun j' o' g1 g2 g3 => h5 j' o' ((hs j' o' g2 g3).2 g1) g2 g3⟩
  · exact .inr ⟨fun j o g1 g2 g3 => h1 j o ((hs j o g2 g3).2 g1) g2 g3, h2⟩

theorem CurVal.uniq {tm0 : Tr Value} {S : Nat → Prop} {t : Tmp} {u u' : Value} (h : CurVal ops tm0 v S t u) (h' : CurVal ops tm0 v S t u') : u = u' := by
  rcases h with ⟨j, o, h1, h2, h3, h4, h5⟩ | ⟨h1, h2⟩ <;> rcases h' with ⟨j', o', h1', h2', h3', h4', h5'⟩ | ⟨h1', h2'⟩
  · have := h5 j' o' h1' h2' h3'
    have := h5' j o h1 h2 h3
    have : j = j' := by omega
    subst this; rw [h4, h4']
  · exact absurd h3 (h1' j o h1 h2)
  · exact absurd h3' (h1 j' o' h1' h2')
  · rw [h2, h2']

/-- An operation more. -/
theorem CurVal.put {tm0 : Tr Value} {S S' : Nat → Prop} {t : Tmp} {u : Value} {i : Nat} {o : Oper} (ho : ops[i]? = some o) (hS : ∀ j, S' j ↔ S j ∨ j = i) (hlast : ∀ j o', S j → ops[j]? = some o' → o'.dst = some t → o.dst = some t → j ≤ i)
    (h : CurVal ops tm0 v S t u) : CurVal ops tm0 v S' t (if o.dst = some t then v i else u) := by
  by_cases hd : o.dst = some t
  · rw [if_pos hd]
    refine .inl ⟨i, o, (hS i).2 (.inr rfl), ho, hd, rfl, fun j' o' g1 g2 g3 => ?_⟩
    rcases (hS j').1 g1 with g1 | rfl
    · exact hlast j' o' g1 g2 g3 hd
    · exact Nat.le_refl _
  · rw [if_neg hd]
    refine h.congr fun j o' g1 g2 => ?_
    rw [hS]
    constructor
    · exact .inl
    · rintro (g | rfl)
      · exact g
      · rw [ho] at g1; cases g1; exact absurd g2 hd

theorem putTm_get {nt : Nat} {tm tm' : Tr Value} {d : Option Tmp} {u : Value} (h : putTm nt tm d u = some tm') (t : Tmp) : tmOf tm' (.tmp t) = if d = some t then u else tmOf tm (.tmp t) := by
  cases d with
  | none => cases h; simp
  | some d =>
    simp only [putTm] at h
    cases hlt : Nat.blt d nt with
    | false => rw [hlt] at h; cases h
    | true =>
      rw [hlt, cond_true] at h
      cases h
      by_cases e : d = t
      · subst e; simp only [if_pos, tmOf, Tr.get_put_same]
      · rw [if_neg (fun h => e (Option.some.inj h))]
        simp only [tmOf, Tr.get_put_ne _ _ (Ne.symm e)]

theorem Trk.tm (tr : Trk P cf cr nt base ops s v) (t : Tmp) : ∀ i, i ≤ ops.length → CurVal ops (s 0).tm v (fun j => j < i) t (tmOf (s i).tm (.tmp t))
  | 0, _ => .inr ⟨fun j o h => by omega, rfl⟩
  | i + 1, hi => by
    obtain ⟨o, ho⟩ := Trk.lt_get i (show i < ops.length by omega)
    rw [putTm_get (tr.step i o ho).1]
    exact CurVal.put ho (fun j => by omega) (fun j o' h _ _ _ => Nat.le_of_lt h) (Trk.tm tr t i (by omega))
end
end Go.Abs
