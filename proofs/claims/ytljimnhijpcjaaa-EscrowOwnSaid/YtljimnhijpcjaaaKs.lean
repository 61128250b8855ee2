/- slices.Sorted of what maps.Keys gives, at numbers: the library's laws, in these words. No conditions but what the specification says. -/
import Derived.Test.YtljimnhijpcjaaaWd
import Derived.Test.YtljimnhijpcjaaaSh
import Derived.KernelRfl
set_option linter.unusedVariables false
set_option linter.unusedSimpArgs false
namespace Go.Proofs.Ytljimnhijpcjaaa.VC
open Go Go.RowKit Go.Maps Go.Sort Go.Shelf Go.ChangeShapes Go.WideShapes Go.MapKept Go.ChangeMaps

/-- slices.Sorted of what maps.Keys gives of a map whose values are of the kind v. -/
def spSorted (clos : FuncId) (v : Ty) : Spc where
  G := List (Int × v.den)
  args _ := [.fn clos [.ptr 0 0]]
  heap E := [.cells [.map 1], .mapo TI64 v E]
  find a h := match a, h with
    | [.fn f [.ptr 0 0]], [.cells [.map 1], .mapo (.int .i64) v' E] => if hv : v' = v then (if hf : f = clos then some (hv ▸ E) else none) else none
    | _, _ => none
  ok := by
    intro a h g hh
    split at hh
    · split at hh
      · rename_i hv
        subst hv
        split at hh
        · rename_i hf
          subst hf
          simp at hh
          subst hh
          exact ⟨.refl _, .refl _⟩
        · cases hh
      · cases hh
    · cases hh
  con E := .det [E.length * 8 ≤ 140737488355328] [] (.sl 2) [] [.arr 3 TI64 (rising (keysOf E))]
  own := false

section
/-- A reading of a map that looks at its keys alone. -/
abbrev RK : Value → Option (DataW Unit × List MemPlace) := fun _ => some (.lit (.bool true), [])

theorem key_reads {P : Program} (ht : P.underlying 3 = some (.int .i64)) {n : Int} (h : InR .i64 n) : keyOf P 3 (.int .i64 n) = some (.int .i64 n) := by
  have : (Lit.int .i64 n).wf = true := by simp only [Lit.wf, Bool.and_eq_true, decide_eq_true_eq]; exact h
  simp [keyOf, ht, mapKey, this]

theorem mapk_key {c : Ctx} {v : Ty} : ∀ {E : List (Int × v.den)} {es : List MapEntry}, MapK c TI64 v E es → es.map (·.key) = E.map (fun e => Value.int .i64 e.1) ∧ ∀ e ∈ E, InR .i64 e.1
  | [], [], _ => ⟨rfl, by simp⟩
  | a :: E, x :: es, ⟨h1, _, h3⟩ => by
    obtain ⟨e1, e2⟩ := mapk_key h3
    have hk : InR .i64 a.1 ∧ x.key = .int .i64 a.1 := by
      have : Ty.V c TI64 a.1 x.key := h1
      unfold Ty.V at this
      rw [if_neg (by simp [Ty.agg])] at this
      exact ⟨this.1, by simpa using this.2⟩
    refine ⟨by simp [hk.2, e1], fun e he => ?_⟩
    rcases List.mem_cons.1 he with rfl | he
    · exact hk.1
    · exact e2 e he
  | [], _ :: _, h => h.elim
  | _ :: _, [], h => h.elim

/-- A map, as the library's laws see it: its keys. -/
theorem mapo_own {c : Ctx} {p : Nat} {v : Ty} {E : List (Int × v.den)} (ht : Try.prog.underlying 3 = some (.int .i64)) (h : IOk c p (.mapo TI64 v E)) :
    ∃ (b : Nat) (D : DataW Unit), c.ρ p = .map (some b) ∧ b < c.w.heap.size ∧ c.w.ownsMap Try.prog 3 RK b E.length D ∧ Maps.size D = E.length ∧ (intKeys D).Perm (keysOf E) := by
  obtain ⟨b, es, clock, h1, h2, h3, h4, h5, h6⟩ := h
  obtain ⟨e1, e2⟩ := mapk_key h3
  have hlen : es.size = E.length := by have := congrArg List.length e1; simpa using this
  have hrd : ∀ x ∈ es.toList, ∃ n : Int, x.key = .int .i64 n ∧ Go.WideElems.rd Try.prog 3 RK x = some (.int .i64 n, (.lit (.bool true) : DataW Unit)) := fun x hx => by
    have : x.key ∈ es.toList.map (·.key) := List.mem_map_of_mem hx
    rw [e1] at this
    obtain ⟨e, he, hk⟩ := List.mem_map.1 this
    refine ⟨e.1, hk.symm, ?_⟩
    unfold Go.WideElems.rd
    rw [← hk, key_reads ht (e2 e he)]; rfl
  have hrg : (es.toList.map (Go.WideElems.rg Try.prog 3 RK)).map (fun p : Lit × DataW Unit => _root_.Go.intOf p.1) = keysOf E := by
    have h0 : (es.toList.map (Go.WideElems.rg Try.prog 3 RK)).map (fun p : Lit × DataW Unit => _root_.Go.intOf p.1) = (es.toList.map (·.key)).map (fun k => match k with | .int _ n => n | _ => 0) := by
      rw [List.map_map, List.map_map]
      refine List.map_congr_left fun x hx => ?_
      obtain ⟨n, hn, hr⟩ := hrd x hx
      simp [Go.WideElems.rg, hr, hn, _root_.Go.intOf]
    rw [h0, e1, List.map_map]; rfl
  have hfit : Go.WideElems.Fit Try.prog 3 (RK) es clock := by
    refine ⟨by rw [hlen]; exact h5.1, ⟨h4.2, h4.1, ?_⟩, fun x hx => ?_⟩
    · rw [e1]
      have hn := h5.nodup
      rw [List.Nodup, List.pairwise_map]
      unfold keysOf at hn
      rw [List.Nodup, List.pairwise_map] at hn
      exact hn.imp fun h e => h (by simpa using e)
    · obtain ⟨n, _, hr⟩ := hrd x hx
      exact ⟨_, hr⟩
  refine ⟨b, .map ((es.toList.map (Go.WideElems.rg Try.prog 3 RK)).foldr DataW.insert []), h1, (Array.getElem?_eq_some_iff.1 h2).1, ⟨es, clock, h2, hfit, by omega, rfl⟩, ?_, ?_⟩
  · show List.length _ = _
    rw [(Go.WideShapes.sorted_perm _).length_eq]; simp [hlen]
  · show (List.map (fun p : Lit × DataW Unit => _root_.Go.intOf p.1) _).Perm _
    have := (Go.WideShapes.sorted_perm (es.toList.map (Go.WideElems.rg Try.prog 3 (RK)))).map (fun p : Lit × DataW Unit => _root_.Go.intOf p.1)
    rw [hrg] at this
    exact this

theorem int_rows {w : World} {Im : Nat → Prop} : ∀ {xs : List Int}, (∀ x ∈ xs, InR .i64 x) → RowsK w Im TI64 xs (xs.map (Value.int .i64))
  | [], _ => rfl
  | x :: xs, h => ⟨[.int .i64 x], xs.map (Value.int .i64), rfl, ⟨h x (by simp), rfl⟩, int_rows fun y hy => h y (by simp [hy])⟩

theorem sorts (m : Nat) : AnyZI.SortsIn Try.prog Try.sortedA_ren Fence.wide m :=
  ⟨fun blk off cap ss W hH hblk hsz => callsIn_wide.2 (AnyM.slices_Sort_int Try.sortA blk off cap ss W hH hblk hsz),
   fun p cap W => callsIn_wide.2 (AnyM.slices_Sort_int_none Try.sortA p cap W)⟩

set_option maxHeartbeats 1000000 in
theorem sorted_fn (v : Ty) : FnOk Try.prog 47 (spSorted 61 v) := by
  refine ⟨Try.call47, fun g c vals hpre h0 hv => ?_⟩
  have hlt : List.length g * 8 ≤ 140737488355328 := hpre _ (List.mem_singleton.2 rfl)
  have hst := start_ok (mods := []) (nt := 0) h0 (fun p hp => Nat.lt_of_lt_of_le ((h0.D p).1 hp) (by show 2 ≤ 1000000; omega)) hv
  have hD0 : c.D 0 := (h0.D 0).2 (by show 0 < 2; omega)
  have hD1 : c.D 1 := (h0.D 1).2 (by show 1 < 2; omega)
  have hD2 : ¬ c.D 2 := fun h => by have := (h0.D 2).1 h; exact absurd this (by show ¬ (2 < 2); omega)
  obtain ⟨B, l, t, k1, k2, k3, k4⟩ := h0.it 0 (.cells [.map 1]) rfl
  obtain ⟨b, D, m1, m2, m3, m4, m5⟩ := mapo_own (v := v) Try.underlying3 (h0.it 1 (.mapo TI64 v g) rfl)
  have hl : l = [.map (some b)] := by
    match l, k3 with
    | [x], ⟨hx, _⟩ =>
      simp only [CV] at hx
      rw [hx.2.1, m1]
  subst hl
  have hvals : vals = #[.func (.func 61) #[] #[.pointer (some ⟨B, 0, none⟩)]] := by
    have hv' : CVL c [.fn 61 [.ptr 0 0]] vals.toList := hv
    cases hvl : vals.toList with
    | nil => rw [hvl] at hv'; exact hv'.elim
    | cons x xs =>
      rw [hvl] at hv'
      obtain ⟨hx, hxs⟩ := hv'
      cases xs with
      | cons y ys => exact hxs.elim
      | nil =>
        simp only [CV] at hx
        obtain ⟨lb, rfl, hlb⟩ := hx
        match lb, hlb with
        | [z], ⟨hz, _⟩ =>
          simp only [CV] at hz
          obtain ⟨_, b', e1, e2⟩ := hz
          rw [k1] at e1
          have : b' = B := by simpa using e1.symm
          subst this
          apply Array.toList_inj.1
          rw [hvl, e2]
  have hBlt : B < c.w.heap.size := (Array.getElem?_eq_some_iff.1 k2).1
  have hseq : SeqGives Fence.wide 2 Try.prog 61 #[.pointer (some ⟨B, 0, none⟩)] encZ (fun ss => ss.Perm (intKeys D)) (Maps.size D) c.w :=
    AnyZI.keys_gives (ρ := Try.keysA_ren) { Try.keysA with } Fence.wide _ trivial rfl (by omega) B b _ D c.w hBlt (by simp [World.cell?, k2]) m3
  have cS := AnyZI.sorted_in Try.sortedA Fence.wide 5 trivial trivial trivial trivial rfl (by omega) (sorts _) (enters_of Try.func60 (by kernel_rfl) rfl) 61 #[.pointer (some ⟨B, 0, none⟩)] trivial (enters_of Try.func61 (by kernel_rfl) rfl) _ _ (by rw [m4]; exact Nat.le_trans (by omega) (show 140737488355328 ≤ maxLen by decide)) (by rw [m4]; exact hlt) _ hseq
  change CallsIn _ _ Try.prog 47 _ _ _ at cS
  rw [hvals]
  refine (callsIn_wide.1 cS).mono fun e w' he => ?_
  obtain ⟨val, ss, rfl, hS, hrow, hnil, hb⟩ := he
  have hss : ss.mergeSort (fun x y => decide (x ≤ y)) = rising (keysOf g) := rising_perm (hS.trans m5)
  have hlen : ss.length = (rising (keysOf g)).length := by rw [rising_len]; exact (hS.trans m5).length_eq
  rw [hss, hlen] at hrow
  have hE : ∀ x ∈ rising (keysOf g), InR .i64 x := fun x hx => by
    obtain ⟨e, he, rfl⟩ := List.mem_map.1 (rising_mem.1 hx)
    obtain ⟨_, es, _, _, _, h3, _⟩ := h0.it 1 (.mapo TI64 v g) rfl
    exact (mapk_key h3).2 e he
  have hbase : ∀ x, val.ownBlock = some x → c.w.heap.size ≤ x ∧ x < w'.heap.size := fun x hx => by
    rcases hrow.2 with ⟨rfl, _⟩ | ⟨gb, cap, cur, rfl, hg1, hg2, _⟩
    · cases hx
    · simp [Value.ownBlock] at hx
      subst hx
      exact ⟨hg1, (Array.getElem?_eq_some_iff.1 hg2).1⟩
  have hi : IOk (c.new w' 2 val (fun x => val.ownBlock = some x)) 2 (.arr 3 TI64 (rising (keysOf g))) := by
    obtain ⟨n1, n2, n3⟩ := Ctx.new_at c w' 2 val (fun x => val.ownBlock = some x)
    refine ⟨(rising (keysOf g)).map (Value.int .i64), ?_, int_rows hE, fun x => by rw [n1]; exact n3 x⟩
    rw [n1]
    exact ownsRow_base_a hrow (Nat.zero_le _)
  have hfit := fits_made (st := { startSt [.fn 61 [.ptr 0 0]] [.cells [.map 1], .mapo TI64 v g] [] with next := 2 }) (it := .arr 3 TI64 (rising (keysOf g))) (v := val) (B := fun x => val.ownBlock = some x)
    (E := envOf c 0) (a := { tmps := vals ++ Array.replicate (0 - vals.size) undef, defers := [] }) (c := c)
    ⟨hst.Dk, hst.tm, hst.sz, hst.df, hst.it, hst.dj, hst.lt, hst.im, hst.im0, hst.im1, hst.fr⟩ hD2 ⟨hb.os, hb.tape, hb.output, hb.size, fun k hk _ => hb.block k hk⟩ hbase hi
  refine ⟨.sl 2, [], [.arr 3 TI64 (rising (keysOf g))], val, c.new w' 2 val (fun x => val.ownBlock = some x), ⟨rfl, rfl, rfl⟩, rfl, rfl, rfl, hfit, ?_⟩
  obtain ⟨n1, n2, n3⟩ := Ctx.new_at c w' 2 val (fun x => val.ownBlock = some x)
  simp only [CV]
  refine ⟨n2, n1.symm, ?_⟩
  rcases hrow.2 with ⟨rfl, _⟩ | ⟨gb, cap, cur, rfl, _⟩
  · exact ⟨_, _, _, rfl⟩
  · exact ⟨_, _, _, rfl⟩
end
end Go.Proofs.Ytljimnhijpcjaaa.VC
