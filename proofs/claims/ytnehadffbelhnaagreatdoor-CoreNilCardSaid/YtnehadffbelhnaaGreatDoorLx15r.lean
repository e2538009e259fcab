/-
  The symbolic executor Lx, part 15r: a range over a function that yields nothing.
-/
import Derived.Test.YtnehadffbelhnaaGreatDoorLx15
namespace Go.Lx
open Go.RowKit
section
variable {P : Program} {M : Mem} {N : Nat}

def rangeK (E : Eng P M) (f : Operand) (ts : TS) (H : List LB) (K : Post) : Prop :=
  ev ts (fun fv => match fv with
    | .func (.func g) first cap => snocK .gone H 0 fun n H1 => appK (fun xs => appK (fun ys => E.call g ys H1 fun _ H' => K .normal ts H') first xs) [.root n] cap
    | _ => False) f

theorem rangeK_ok {E : Eng P M} {f : Operand} {ps : Array Tmp} {c d : Code} {ts : TS} {H : List LB} {K : Post} (h : rangeK E f ts H K) : CodeOk P M N (.rangeFunc f ps c d) ts H K := by
  refine ⟨fun e own w a hs ht hN => ?_⟩
  obtain ⟨fv, h1, h2, h3⟩ := ev_spec ht h
  match fv, h1 with
  | .func (.func g) first cap, h1 =>
  have h4 := E.callOk (appK_spec (appK_spec (snocK_len h1)))
  clear h h1
  have h3' : scL H.length first ∧ scL H.length cap := h3
  let y : Value := .func (.yield (w.heap.size + 1)) #[] #[]
  refine wpIn_wide.1 (wpIn_rangeFunc (F := Fence.wide) (n := 0) fun fn _ => ?_)
  let rec_ : Loop := { state := .ready, pending := none, fn, tmps := a.tmps, params := ps, assign := c, body := d, defers := w.heap.size }
  let w1 : World := (w.alloc (.deferred (some []))).alloc (.loop rec_)
  have hsz : w1.heap.size = w.heap.size + 2 := by simp [w1]
  have hkeep : ∀ k, k < w.heap.size → w1.heap[k]? = w.heap[k]? := fun k hk => by
    rw [Below.heap_alloc _ _ _ (by simp; omega), Below.heap_alloc _ _ _ hk]
  have hd1 : w1.heap[w.heap.size]? = some (.deferred (some [])) := by
    rw [Below.heap_alloc _ _ _ (by simp)]; exact World.alloc_heap_new _ _
  have hd2 : w1.heap[w.heap.size + 1]? = some (.loop rec_) := by
    have := World.alloc_heap_new (w.alloc (.deferred (some []))) (.loop rec_)
    simpa [w1] using this
  let e1 := e.push H.length 0 y
  let own1 := ownPush own H.length (fun _ => False)
  have hs1 : Sat M e1 own1 w1 (H ++ [.gone]) := hs.push (by omega) hkeep (fun k hk => hk.elim) (fun k hk => hk.elim) trivial rfl
  have hag : Agree e e1 H.length := e.push_agree _ _ _
  have hown1 : ∀ i k, own1 i k → k < w.heap.size := fun i k hi => by
    simp only [own1, ownPush] at hi
    split at hi
    · exact hi.elim
    · exact hs.lt i k hi
  have hxo : Ext own w own1 w1 := ⟨rfl, rfl, rfl, by omega, fun k hk _ => hkeep k hk, fun i k hi _ => by
    simp only [own1, ownPush] at hi
    split at hi
    · exact hi.elim
    · exact ⟨i, hi⟩⟩
  have hargs : denL e1 (first ++ ([.root H.length] ++ cap)) = denL e first ++ (y :: denL e cap) := by
    rw [denL_append, denL_append, ← denL_agree hag first h3'.1, ← denL_agree hag cap h3'.2]
    simp [denL, LV.den, e1, Env.push]
  have hsc : scL (H ++ [LB.gone]).length (first ++ ([.root H.length] ++ cap)) := by
    rw [scL_iff]
    intro x hx
    simp only [List.length_append, List.length_singleton]
    simp only [List.mem_append, List.mem_singleton] at hx
    rcases hx with hx | rfl | hx
    · exact LV.sc_mono (by omega) x ((scL_iff _ _).1 h3'.1 x hx)
    · simp [LV.sc]
    · exact LV.sc_mono (by omega) x ((scL_iff _ _).1 h3'.2 x hx)
  refine ⟨w.heap.size + 1, [{ target := .collected w.heap.size, args := #[] }], w1, { target := .fn (.func g) (denL e cap).toArray, args := (denL e first).toArray ++ #[y] }, w1, g,
    (denL e first).toArray ++ #[y] ++ (denL e cap).toArray, w1, run_enterLoop_outer _ _ _ _ _, ?_, fun _ _ => trivial, ?_, by simp [Fence.wide], callsIn_wide.2 ?_⟩
  · have hm : Array.map a.eval #[Operand.const y] = #[y] := by simp [Act.eval]
    simp only [resolve, Sem.run_pure, h2, LV.den, Deferred.ofValue]
    rw [← hm]
  · simp only [invoke]
    exact h4.enter _ _
  · have h5 := h4.out e1 own1 w1 hs1 hsc
    have hargs' : (denL e1 (first ++ ([.root H.length] ++ cap))).toArray = (denL e first).toArray ++ #[y] ++ (denL e cap).toArray := by
      rw [hargs]; simp
    rw [hargs'] at h5
    refine h5.mono fun en w' hp => ?_
    obtain ⟨e', own', H', r, rfl, k1, k2, k3, k4, k5, k6⟩ := hp
    have hno1 : ∀ r, w.heap.size ≤ r → ∀ i, ¬ own1 i r := fun r hr i hi => by have := hown1 i r hi; omega
    have hno : ∀ r, w.heap.size ≤ r → r < w.heap.size + 2 → ∀ i, ¬ own' i r := fun r hr hr2 i hi => by
      obtain ⟨j, hj⟩ := k5.own i r hi (by omega)
      exact hno1 r hr j hj
    have hl := (k5.block (w.heap.size + 1) (by omega) (hno1 _ (by omega))).trans hd2
    have hdd := (k5.block w.heap.size (by omega) (hno1 _ (by omega))).trans hd1
    have hend := run_endLoop (P := P) hl (by simp [rec_])
    refine ⟨_, _, hend, ?_⟩
    show CPost M N e own w H K a.defers .normal _ _
    have hsize' : w.heap.size + 2 ≤ w'.heap.size := by have := k5.size; omega
    have hput : ∀ k, k ≠ w.heap.size + 1 → (w'.putObj (w.heap.size + 1) (.loop { rec_ with state := .exhausted })).heap[k]? = w'.heap[k]? := fun k hk => World.putObj_heap_other hk
    refine ⟨e', own', ts, H', .normal, rfl, k1, by simp at k2; omega, hag.trans (k3.mono (by simp)) (Nat.le_refl _), ⟨fun i B hB => ⟨LB.sat_keep (k4.bl i B hB).1 (by simp) (fun k hk _ => hput k fun he => hno k (by omega) (by omega) i hk), (k4.bl i B hB).2⟩, k4.dj,
      fun i k hi => by simpa using k4.lt i k hi, k4.out, fun ad u hu => ?_, k4.one⟩, ⟨k5.os.trans hxo.os, k5.tape.trans hxo.tape, k5.output.trans hxo.output, by simp; omega, fun k hk hn => ?_, fun i k hi hk => ?_⟩, ?_, ?_, ?_⟩
    · obtain ⟨g1, g2⟩ := k4.ro ad u hu
      refine ⟨(World.cell?_of_block (hput ad.block fun he => ?_)).trans g1, g2⟩
      simp [World.cell?, he, hl] at g1
    · rw [hput k (by omega), k5.block k (by omega) fun i hi => ?_]
      · exact hkeep k hk
      · obtain ⟨j, hj⟩ := hxo.own i k hi hk; exact hn j hj
    · obtain ⟨j, hj⟩ := k5.own i k hi (by omega)
      exact hxo.own j k hj hk
    · have := ht.agree (n' := H'.length) (by simp at k2; omega) (hag.trans (k3.mono (by simp)) (Nat.le_refl _))
      exact ⟨fun k x hx => this.tm k x hx⟩
    · refine ⟨[w.heap.size], rfl, by simp, fun r hr => ?_⟩
      simp only [List.mem_singleton] at hr
      subst hr
      refine ⟨Nat.le_refl _, ?_, hno _ (Nat.le_refl _) (by omega)⟩
      rw [hput _ (by omega)]; exact hdd
    · exact hN
end
end Go.Lx
