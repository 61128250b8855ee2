/- Ranging over a map, lists of one's own that grow. Plain lemmas; no conditions but those that each names. -/
import Derived.Test.YtljimnhijpcjaaaVl
set_option linter.unusedVariables false
set_option linter.unusedSimpArgs false
set_option linter.unusedSectionVars false
namespace Go.Proofs.Ytljimnhijpcjaaa.VC
open Go

theorem Post.mono {E : Env} {st : St} {hold : List Nat} {c : Ctx} {dst : Option Nat} {K K' : St → Prop} {a' : Act} {w' : World} (h : Post E st hold c dst K a' w') (hK : ∀ s, K s → K' s) : Post E st hold c dst K' a' w' :=
  let ⟨st', c', h1, h2, h3, h4⟩ := h
  ⟨st', c', h1, h2, hK _ h3, h4⟩

section
variable {P : Program} {tt : TypeId → Option TI} {eqt : TypeId → Option (List EF)} {sp : FuncId → Option Spc} {E : Env} {st : St} {a : Act} {c : Ctx} {hold : List Nat} {K : St → Prop} {Q : Exit → Act → World → Prop} {o : Oper}

theorem fits_same (h : ROk E st a c) : Fits c c [] [] [] [] st.next :=
  ⟨fun p => by simp; omega, ⟨fun _ h => h, fun _ _ _ => rfl, fun _ _ _ _ => Iff.rfl, fun _ h => h, fun _ _ => rfl, fun _ _ _ _ _ => rfl, fun _ h => absurd h (by simp)⟩, fun _ _ h => absurd h (by simp), fun _ _ h => (by simp at h), fun _ _ h => absurd h (by simp), fun _ _ h1 h2 => (by simp at h2; omega),
    fun _ _ _ h1 _ => (by simp at h1; omega), fun p b h1 h2 => (h.lt p b h1 h2).1, fun b hb => ⟨(h.im b hb).1, .inl hb⟩, fun _ _ _ h => (by simp at h; omega), Fr.refl _ _⟩

/-- A value, nothing else. -/
theorem val_loud (h : ROk E st a c) (hlk : LockOk st) {v : AV} {cv : Value} (hK : stepK E.nt st hold [] o.dst v [] [] K) (hrun : (execOp a.eval o).run P c.w = .ok (.value cv) c.w) (hc : CV c v cv) : o.wp P a c.w (Post E st hold c o.dst K) Q := by
  unfold Oper.wp
  rw [hrun]
  exact post_of h hlk hK fun hl => ⟨c, rfl, fits_same h, hc⟩

theorem MapK.filter_at {k v : Ty} {L : List (k.den × v.den)} {es : List MapEntry} (h : MapK c k v L es) {y : MapEntry} (hy : y ∈ es) (hn : (es.map (·.born)).Nodup) : ∃ l1 e l2, L = l1 ++ e :: l2 ∧ k.V c e.1 y.key ∧ v.V c e.2 y.val ∧ MapK c k v (l1 ++ l2) (es.filter fun x => x.born != y.born) := by
  induction es generalizing L with
  | nil => cases hy
  | cons x es ih =>
    cases L with
    | nil => exact h.elim
    | cons e L =>
      obtain ⟨h1, h2, h3⟩ := h
      rw [List.map_cons, List.nodup_cons] at hn
      rcases List.mem_cons.1 hy with rfl | hy
      · refine ⟨[], e, L, rfl, h1, h2, ?_⟩
        rw [List.filter_cons, if_neg (by simp), List.filter_eq_self.2]
        · exact h3
        · intro z hz
          simp only [bne_iff_ne]
          intro e'
          exact hn.1 (e' ▸ List.mem_map_of_mem hz)
      · obtain ⟨l1, e', l2, rfl, k1, k2, k3⟩ := ih h3 hy hn.2
        refine ⟨e :: l1, e', l2, rfl, k1, k2, ?_⟩
        rw [List.filter_cons, if_pos (by
          simp only [bne_iff_ne]
          intro e''
          exact hn.1 (e'' ▸ List.mem_map_of_mem hy))]
        exact ⟨h1, h2, k3⟩

theorem next_loud (h : ROk E st a c) (hlk : LockOk st) {it : Operand} {s : Bool} (hop : o.op = .next it s) {r : Res} (hr : opA tt eqt sp st o = some r) (hK : goAlts E.nt st hold r.rel o.dst K r.alts) : o.wp P a c.w (Post E st hold c o.dst K) Q := by
  cases s with
  | true => simp [opA, hop] at hr
  | false =>
    simp only [opA, hop] at hr
    have hx := eval_cv h it
    unfold nextA at hr
    split at hr
    · rename_i p he
      split at hr
      · rename_i m k v left now hat
        have hr := Option.some.inj hr
        subst hr
        rw [he] at hx
        simp only [CV] at hx
        obtain ⟨hD, b, hρ, hv⟩ := hx
        have hi := h.it p hD
        rw [hat] at hi
        obtain ⟨b', mb, seen, es, clock, h1, h2, h3, h4, h5, h6, h7, h8, h9, h10⟩ := hi
        rw [hρ] at h1
        simp at h1
        subst h1
        obtain ⟨hK1, hK2⟩ := hK
        have hne : ¬ b = mb := fun e => by rw [e, h6] at h2; cases h2
        have htest : (!seen.isEmpty && !es.isEmpty && es.all (·.born ≥ clock)) = false := next_test_false seen es clock clock (fun x hx => h7.2 x hx) (Nat.le_refl _)
        have hold' : (es.filter fun e => !seen.contains e.born).filter (fun x => decide (x.born < clock)) = es.filter fun e => !seen.contains e.born := by
          apply Array.filter_eq_self.2
          intro x hx
          simp at hx ⊢
          exact h7.2 x (by simpa using hx.1)
        have hnew : (es.filter fun e => !seen.contains e.born).filter (fun x => decide (x.born ≥ clock)) = #[] := by
          rw [Array.filter_eq_empty_iff]
          intro x hx
          simp at hx ⊢
          have := h7.2 x (by simpa using hx.1)
          omega
        have hrunhead : ∀ f : Nat → Sem Value, True := fun _ => trivial
        generalize hL : (es.filter fun e => !seen.contains e.born) = L at hold' hnew
        have hLl : L.toList = es.toList.filter fun x => !seen.contains x.born := by rw [← hL]; simp
        rw [← hLl] at h8
        by_cases h0 : L.size = 0
        · have hLe : L = #[] := Array.eq_empty_of_size_eq_zero h0
          have hleft : left = [] := by
            rw [hLe] at h8
            cases left with
            | nil => rfl
            | cons _ _ => exact h8.elim
          refine val_loud h hlk (cv := .tuple #[.bool false]) (hK1 () ⟨hleft⟩) ?_ (by simp only [CV]; exact ⟨[.bool false], rfl, by simp [CV], trivial⟩)
          simp only [execOp, hop]
          rw [hv]
          simp only [Instr.next, Sem.run_bind, getObj, Sem.run, h2, Result.andThen_ok, h6, htest, Bool.false_eq_true, if_false, hL, hold', hnew, hLe]
          simp [choose, Sem.run, Question.forced]
        · have hne' : L.isEmpty = false := by simp [Array.isEmpty, h0]
          have hch : ∃ (j : Nat) (w1 : World), j < L.size ∧ w1.heap = c.w.heap ∧ w1.os = c.w.os ∧ w1.tape = c.w.tape ∧ w1.output = c.w.output ∧ (choose (Question.mapNext L.size)).run P c.w = .ok j w1 := by
            by_cases hf : L.size ≤ 1
            · exact ⟨0, c.w, by omega, rfl, rfl, rfl, rfl, by simp [choose, Sem.run, Question.forced, hf]⟩
            · exact ⟨_, c.w.drew, Nat.mod_lt _ (by omega), rfl, rfl, rfl, rfl, by
                simp only [choose, Sem.run, Question.forced, decide_eq_true_eq, hf, if_false, Question.cut]
                rfl⟩
          obtain ⟨j, w1, hj, hw1, hw2, hw3, hw4, hrun⟩ := hch
          have hyL : L[j] ∈ L.toList := by simp
          have hnd : (L.toList.map (·.born)).Nodup := by
            rw [hLl]
            exact h7.1.sublist (List.Sublist.map _ (List.filter_sublist ..))
          obtain ⟨l1, e, l2, hl, k1, k2, k3⟩ := MapK.filter_at h8 hyL hnd
          have hy : L[j] ∈ es.toList := by rw [hLl] at hyL; exact (List.mem_filter.1 hyL).1
          have hys : seen.contains (L[j]).born = false := by rw [hLl] at hyL; simpa using (List.mem_filter.1 hyL).2
          have hgb : b < c.w.heap.size := (h.lt p b hD ((h10 b).2 rfl)).1
          have hother : ∀ x, x ≠ b → ({ w1 with heap := w1.heap.setIfInBounds b (.mapIter (some mb) clock (seen.push (L[j]).born) clock) } : World).heap[x]? = c.w.heap[x]? := fun x hx => by
            simp only
            rw [Array.getElem?_setIfInBounds_ne (fun e => hx e.symm), hw1]
          refine upd_loud h hlk (cv := .tuple #[.bool true, (L[j]).key, (L[j]).val]) (nx := .value (.tuple #[.bool true, (L[j]).key, (L[j]).val])) (w' := { w1 with heap := w1.heap.setIfInBounds b (.mapIter (some mb) clock (seen.push (L[j]).born) clock) }) (hK2 (l1, e, l2) ⟨hl⟩) ?_ (.inl rfl) hD (by simp [hw1]) hw2 hw3 hw4 (fun x _ hn => hother x (fun e => hn ((h10 x).2 e))) ?_ ?_
          · simp only [execOp, hop]
            rw [hv]
            simp only [Instr.next, Sem.run_bind, getObj, Sem.run, h2, Result.andThen_ok, h6, htest, Bool.false_eq_true, if_false, hL, hold', hnew, Array.append_empty, hne', Array.empty_append, Array.size_map, hrun, Array.getElem?_map, Array.getElem?_eq_getElem hj, Option.map_some]
            have hset : (setObj b (.mapIter (some mb) clock (seen.push (L[j]).born) clock)).run P w1 = .ok () { w1 with heap := w1.heap.setIfInBounds b (.mapIter (some mb) clock (seen.push (L[j]).born) clock) } := by
              simp [setObj, Sem.run, hw1, h2]
            simp only [hset, Result.andThen_ok, Sem.run_pure, Sem.run_bind]
          · have hX := at_ext (w' := { w1 with heap := w1.heap.setIfInBounds b (.mapIter (some mb) clock (seen.push (L[j]).born) clock) }) h hD (fun x _ hn => hother x (fun e => hn ((h10 x).2 e)))
            refine ⟨b, mb, seen.push (L[j]).born, es, clock, hρ, ?_, h3, h4, h5, (hother mb (fun e => hne e.symm)).trans h6, h7, ?_, fun e' he' => ?_, h10⟩
            · show (w1.heap.setIfInBounds b _)[b]? = _
              rw [Array.getElem?_setIfInBounds_self_of_lt (by rw [hw1]; exact hgb)]
            · have : (es.toList.filter fun x => !(seen.push (L[j]).born).contains x.born) = L.toList.filter fun x => x.born != (L[j]).born := by
                rw [hLl, List.filter_filter]
                apply List.filter_congr
                intro x _
                rw [Array.contains_push]
                cases seen.contains x.born <;> cases hxb : x.born == (L[j]).born <;> simp_all [bne]
              rw [this]
              exact MapK.ext hX k3
            · simp at he'
              subst he'
              exact ⟨L[j], hy, by simp, Ty.V_ext hX k1, Ty.V_ext hX k2⟩
          · have hX := at_ext (w' := { w1 with heap := w1.heap.setIfInBounds b (.mapIter (some mb) clock (seen.push (L[j]).born) clock) }) h hD (fun x _ hn => hother x (fun e => hn ((h10 x).2 e)))
            simp only [CV]
            exact ⟨[.bool true, (L[j]).key, (L[j]).val], rfl, by simp [CV], Ty.av_cv k e.1 _ (Ty.V_ext hX k1), Ty.av_cv v e.2 _ (Ty.V_ext hX k2), trivial⟩
      · cases hr
    · cases hr

theorem entry_loud (h : ROk E st a c) (hlk : LockOk st) {it : Operand} (hop : o.op = .entry it) {r : Res} (hr : opA tt eqt sp st o = some r) (hK : goAlts E.nt st hold r.rel o.dst K r.alts) : o.wp P a c.w (Post E st hold c o.dst K) Q := by
  simp only [opA, hop] at hr
  have hx := eval_cv h it
  unfold nowA at hr
  split at hr
  · rename_i p he
    split at hr
    · rename_i m k v left e hat
      simp only [qv] at hr
      have hr := Option.some.inj hr
      subst hr
      rw [he] at hx
      simp only [CV] at hx
      obtain ⟨hD, b, hρ, hv⟩ := hx
      have hi := h.it p hD
      rw [hat] at hi
      obtain ⟨b', mb, seen, es, clock, h1, h2, h3, h4, h5, h6, h7, h8, h9, h10⟩ := hi
      rw [hρ] at h1
      simp at h1
      subst h1
      obtain ⟨x, hx1, hx2, hx3, hx4⟩ := h9 e rfl
      refine val_loud h hlk hK (cv := .tuple #[x.key, x.val]) ?_ (by simp only [CV]; exact ⟨[x.key, x.val], rfl, Ty.av_cv k _ _ hx3, Ty.av_cv v _ _ hx4, trivial⟩)
      have hfind : es.find? (·.born == x.born) = some x := by
        rw [← Array.find?_toList]
        exact find_born x es.toList h7.1 hx1
      simp only [execOp, hop]
      rw [hv]
      simp only [Instr.entry, Sem.run_bind, getObj, Sem.run, h2, Result.andThen_ok, hx2, h6, bne_self_eq_false, Bool.false_eq_true, if_false, hfind, Sem.run_pure]
    · cases hr
  · cases hr
end
end Go.Proofs.Ytljimnhijpcjaaa.VC
