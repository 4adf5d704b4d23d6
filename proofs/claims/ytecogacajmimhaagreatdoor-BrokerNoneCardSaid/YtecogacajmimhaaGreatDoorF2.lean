/-
  grapevinelaw16.BrokerNone: THE CARD.
-/
import Derived.Test.YtecogacajmimhaaGreatDoorF1
import Derived.Test.YtecogacajmimhaaGreatDoorCards
import Derived.Test.YtecogacajmimhaaGreatDoorTie
import Derived.WalkKit
import Derived.ProofKit
import Derived.OpenShut
import Derived.Deep.DeepHandedRow
import Derived.Lib.LaidTab
namespace Go.Proofs.YtecogacajmimhaaGreatDoor.brokerNone
open Go.ChangeShapes Go.WideShapes Go.ChangeAt Go.RowKit

theorem own : ownKnob Tryz.prog.godebug = none := by kernel_rfl
theorem cells5 : Tryz.prog.cellsOf 5 = 1 := by kernel_rfl

/-- A slice of bytes that came in reads again in a memory that has what was there. -/
theorem bytes_again {H : Type} {enc : TypeId × Value → H} {W W' : World} {v : Value} {d : DataW H} {p : List MemPlace} (hh : ∀ i, i < W.heap.size → W'.heap[i]? = W.heap[i]?)
    (h : DataW.Trod enc Tryz.prog W 0 (fun _ => true) true 22 v d p) (sp : Nat → Bool) (hs : ∀ x ∈ p, sp x.block = true) : DataW.Trod enc Tryz.prog W' 0 sp true 22 v d p := by
  obtain ⟨fuel, hf⟩ := h
  rcases open_ints Tryz.underlying22 Tryz.underlying5 cells5 hf with ⟨hcs, hx⟩ | ⟨a, len, cap, zs, hcs, hb, hl, hm, hz, hx, hcell, hwz⟩
  · simp only [Prod.mk.injEq] at hx
    obtain ⟨rfl, rfl⟩ := hx
    exact ⟨1, by simp [DataW.trod, Tryz.underlying22, hcs]⟩
  · simp only [Prod.mk.injEq] at hx
    obtain ⟨rfl, rfl⟩ := hx
    simp only [if_true] at hz
    have hcell' : ∀ i, i < zs.length → W'.cell? (a.add i) = some (.int .u8 (zs.getD i 0)) := fun i hi => by
      have h1 := hcell i hi
      have hlt : (a.add i).block < W.heap.size := by
        rcases Nat.lt_or_ge (a.add i).block W.heap.size with h | h
        · exact h
        · have hn : W.heap[(a.add i).block]? = none := Array.getElem?_eq_none h
          simp [World.cell?, hn] at h1
      have : W'.cell? (a.add i) = W.cell? (a.add i) := by
        unfold World.cell?
        rw [hh _ hlt]
      rw [this]; exact h1
    have hsp : zs.length = (if sp a.block then cap else len) := by
      by_cases h0 : zs.length = 0
      · have : cap = 0 := by omega
        have : len = 0 := by omega
        split <;> omega
      · have := hs (.cell a.block a.off) (MemPlace.mem_row.2 ⟨0, by omega, rfl⟩)
        have h2 : sp a.block = true := this
        rw [h2, if_pos rfl]; exact hz
    have := shut_ints (enc := enc) (P := Tryz.prog) (w := W') (base := 0) (spare := sp) (held := true) 0 Tryz.underlying22 Tryz.underlying5 cells5 (Nat.zero_le _) hl hm hsp hcell' hwz
    refine ⟨2, ?_⟩
    rw [hcs]; exact this

set_option maxRecDepth 100000 in
theorem contract (H : Type) (enc : TypeId × Value → H) (W : World) (base : Nat) (args : Array Value) (ds gs : List (DataW H)) (before : List MemPlace)
    (hval : ∀ (j : Nat) t v, Tryz.f4.params[j]? = some t → args[j]? = some v → Value.okWide Tryz.prog W .any base t v)
    (hW : DataW.Whole enc Tryz.prog Tryz.f4.params.toList Rows.brokerNoneSpec.vars false W args.toList ds gs before) :
    Calls Tryz.prog 4 args W fun e W' => ∃ v, e = .returned v ∧ Rows.brokerNoneSpec.post enc Tryz.prog Tryz.f4 false true false false W args v W' := by
  have hW' := hW
  obtain ⟨p, q, hA0, hV, rfl, hfz, hnd⟩ := hW
  have hA : DataW.TrodAll enc Tryz.prog W 0 (fun _ => true) true Tryz.f4.params.toList args.toList ds p := hA0
  rw [Tryz.params4] at hA hval
  obtain ⟨v0, vs0, d0, ds0, p0, q0, hargs, rfl, rfl, t0, r0⟩ := trodAll_cons hA
  obtain ⟨v1, vs1, d1, ds1, p1, q1, rfl, rfl, rfl, t1, r1⟩ := trodAll_cons r0
  obtain ⟨v2, vs2, d2, ds2, p2, q2, rfl, rfl, rfl, t2, r2⟩ := trodAll_cons r1
  obtain ⟨rfl, rfl, rfl⟩ := trodAll_nil r2
  obtain rfl : args = #[v0, v1, v2] := by cases args; simp_all
  obtain ⟨rfl, rfl⟩ := trodVars_none hV
  obtain ⟨n, rfl, rfl, rfl, wn⟩ := open_int Tryz.underlying3 (hval 0 3 v0 rfl rfl) t0
  obtain ⟨m, rfl, rfl, rfl, wm⟩ := open_int Tryz.underlying3 (hval 1 3 v1 rfl rfl) t1
  obtain ⟨a, len, cap, rfl⟩ := okWide_slice Tryz.underlying22 (hval 2 22 v2 rfl rfl)
  clear hA0
  simp only [List.append_nil, List.nil_append] at hW'
  refine (Go.Abs.law_calls (.int .i64 n) (.int .i64 m) (.slice a len cap) rfl rfl rfl W).mono fun e W' ⟨he, hg, hh⟩ => ?_
  subst he
  exact ⟨_, rfl, post_of_same (pa := p2) (pv := []) hW' (fun _ _ _ => trodAll_cons_mk (shut_bool Tryz.underlying4 _) trodAll_mk0)
    (fun sp hs => by
      have h3 := trodAll_cons_mk (shut_int (enc := enc) (w := W') (base := 0) (spare := sp) (held := true) Tryz.underlying3 wn) (trodAll_cons_mk (shut_int Tryz.underlying3 wm) (trodAll_cons_mk (bytes_again hh t2 sp hs) trodAll_mk0))
      simp only [List.append_nil, List.nil_append] at h3
      exact h3)
    (fun _ _ => rfl) (List.append_nil _).symm (hg.frame _) hg.2.1 (ok_one (by kernel_rfl) rfl (okWide_bool_mk Tryz.underlying4 _))⟩
end Go.Proofs.YtecogacajmimhaaGreatDoor.brokerNone
