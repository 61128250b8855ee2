/- How an argument is read, and the join with a statement's row. Plain lemmas; no conditions but those that each names. -/
import Derived.Test.YtljimnhijpcjaaaVy
import Derived.ChangeArms
import Derived.Deep.Slices
import Derived.DataReads
import Derived.WalkKit
import Derived.ProofKit
import Derived.Below
set_option linter.unusedVariables false
set_option linter.unusedSimpArgs false
namespace Go.Proofs.Ytljimnhijpcjaaa.VC
open Go Go.RowKit Go.Deep Go.WideShapes

/-- The world of a call, as the callee sees it: nothing of its own; what is there may be read. -/
def ctx0 (W : World) : Ctx := ⟨W, fun _ => False, fun _ => undef, fun _ _ => False, fun b => b < W.heap.size⟩

section
variable {H : Type} {P : Program} {enc : TypeId × Value → H} {w : World} {base : Nat} {spare : Nat → Bool} {held : Bool}

/-- A value of type t that reads as data reads as some data of the kind e. -/
def Rd (enc : TypeId × Value → H) (P : Program) (w : World) (base : Nat) (spare : Nat → Bool) (held : Bool) (e : Ty) (t : TypeId) : Prop :=
  ∀ (fuel : Nat) (cs : List Value) (x : DataW H × List MemPlace), DataW.trod enc P w base spare held fuel t cs = some x → ∃ a : e.den, e.K w (fun b => b < w.heap.size) a cs

theorem rd_int {k : IntKind} {t : TypeId} (ht : P.underlying t = some (.int k)) : Rd enc P w base spare held (.int k) t := fun fuel cs x h => by
  obtain ⟨n, rfl, _, hw⟩ := DataW.trod_int ht h
  simp only [Lit.wf, Bool.and_eq_true, decide_eq_true_eq] at hw
  exact ⟨n, hw, rfl⟩
theorem rd_bool {t : TypeId} (ht : P.underlying t = some .bool) : Rd enc P w base spare held .bool t := fun fuel cs x h => by
  obtain ⟨n, rfl, _⟩ := DataW.trod_bool ht h
  exact ⟨n, rfl⟩

theorem block_add (a : Addr) (n : Nat) : (a.add n).block = a.block := by unfold Addr.add; split <;> rfl
theorem cell_block {a : Addr} {v : Value} (h : w.cell? a = some v) : a.block < w.heap.size := by
  unfold World.cell? at h
  split at h
  · rename_i hb
    exact (Array.getElem?_eq_some_iff.1 hb).1
  · cases h

theorem rd_slice {t u : TypeId} {e : Ty} (ht : P.underlying t = some (.slice u)) (hc : P.cellsOf u = e.sz) (hd : Rd enc P w base spare held e u) : Rd enc P w base spare held (.slice e) t := fun fuel cs x h => by
  rcases open_slice ht h with ⟨rfl, _⟩ | ⟨ad, len, cap, m, n, D, Pl, rfl, _, hl, hm, hmm, _, hx⟩
  · exact ⟨([] : List e.den), none, 0, rfl, Nat.le_refl _, ⟨Nat.zero_le _, fun _ => rfl⟩, fun h => absurd h (Nat.lt_irrefl 0)⟩
  · have h1 : len ≤ m := by rw [hmm]; split <;> omega
    have one : ∀ i, i < len → ∃ a : e.den, ∃ c, e.K w (fun b => b < w.heap.size) a c ∧ LieAt w (fun b => b < w.heap.size) (ad.add (i * e.sz)) c := by
      intro i hi
      obtain ⟨cs', h1, h2⟩ := hx i (by omega)
      obtain ⟨a, h3⟩ := hd n cs' _ h2
      obtain ⟨_, h5, h6⟩ := World.cells?_some h1
      refine ⟨a, cs', h3, fun j u hj => ?_⟩
      have hj' : j < cs'.length := (List.getElem?_eq_some_iff.1 hj).1
      have := h6 j (by omega)
      rw [hj, hc] at this
      exact ⟨(block_add (ad.add (i * e.sz)) j ▸ cell_block this), this⟩
    classical
    let f : (i : Nat) → i < len → e.den := fun i hi => Classical.choose (one i hi)
    have hf : ∀ i (hi : i < len), ∃ c, e.K w (fun b => b < w.heap.size) (f i hi) c ∧ LieAt w (fun b => b < w.heap.size) (ad.add (i * e.sz)) c := fun i hi => Classical.choose_spec (one i hi)
    refine ⟨List.ofFn fun i : Fin len => f i.1 i.2, some ad, cap, by simp, by simpa using hl, ⟨by simp; omega, fun h => by cases h⟩, fun _ => ⟨ad, rfl, fun i x hi => ?_⟩⟩
    obtain ⟨hj1, hj2⟩ := List.getElem?_eq_some_iff.1 hi
    rw [List.length_ofFn] at hj1
    rw [List.getElem_ofFn] at hj2
    subst hj2
    exact hf i hj1

/-- The fields of a struct from one on. -/
def Segs (enc : TypeId × Value → H) (P : Program) (w : World) (base : Nat) (spare : Nat → Bool) (held : Bool) (e : Ty) (fl : List Field) (off : Nat) : Prop :=
  ∀ (n : Nat) (cs : List Value), cs.length = e.sz → (∀ (i : Nat) (f : Field), fl[i]? = some f → ∃ x, DataW.trod enc P w base spare held n f.type ((cs.drop (f.offset - off)).take (P.cellsOf f.type)) = some x) → ∃ a : e.den, e.K w (fun b => b < w.heap.size) a cs

theorem segs_one {e : Ty} {f : Field} {off : Nat} (ho : f.offset = off) (hc : P.cellsOf f.type = e.sz) (hd : Rd enc P w base spare held e f.type) : Segs enc P w base spare held e [f] off := fun n cs hl h => by
  obtain ⟨x, hx⟩ := h 0 f rfl
  rw [ho, Nat.sub_self, List.drop_zero, hc, List.take_of_length_le (by omega)] at hx
  exact hd n cs x hx

theorem segs_cons {e e' : Ty} {f : Field} {fl : List Field} {off : Nat} (ho : f.offset = off) (hc : P.cellsOf f.type = e.sz) (hge : ∀ g ∈ fl, off + e.sz ≤ g.offset)
    (hd : Rd enc P w base spare held e f.type) (hr : Segs enc P w base spare held e' fl (off + e.sz)) : Segs enc P w base spare held (.pair e e') (f :: fl) off := fun n cs hl h => by
  have hl' : cs.length = e.sz + e'.sz := hl
  obtain ⟨x, hx⟩ := h 0 f rfl
  rw [ho, Nat.sub_self, List.drop_zero, hc] at hx
  obtain ⟨a, h1⟩ := hd n _ x hx
  obtain ⟨b, h3⟩ := hr n (cs.drop e.sz) (by rw [List.length_drop]; omega) (fun i g hg => by
    obtain ⟨y, hy⟩ := h (i + 1) g hg
    refine ⟨y, ?_⟩
    have := hge g (List.mem_of_getElem? hg)
    rw [List.drop_drop, show e.sz + (g.offset - (off + e.sz)) = g.offset - off from by omega]
    exact hy)
  exact ⟨(a, b), _, _, (List.take_append_drop e.sz cs).symm, h1, h3⟩

theorem rd_struct {e : Ty} {t : TypeId} {fs : Array Field} (ht : P.underlying t = some (.struct fs)) (hc : P.cellsOf t = e.sz) (hs : Segs enc P w base spare held e fs.toList 0) : Rd enc P w base spare held e t := fun fuel cs x h => by
  obtain ⟨xs, n, _, _, hl, hlen, hf⟩ := DataW.trod_struct ht h
  refine hs n cs (by rw [hl, hc]) (fun i f hi => ?_)
  rw [Array.getElem?_toList] at hi
  have hi' : i < xs.length := by rw [hlen]; exact (Array.getElem?_eq_some_iff.1 hi).1
  exact ⟨_, by rw [Nat.sub_zero, hf i f hi]; exact List.getElem?_eq_getElem hi'⟩

/-- An argument, opened. -/
theorem arg_int {r : Reach} {b0 : Nat} {k : IntKind} {t : TypeId} {v : Value} {x : DataW H} {p : List MemPlace} (ht : P.underlying t = some (.int k)) (hv : Value.okWide P w r b0 t v) (h : DataW.Trod enc P w base spare held t v x p) :
    ∃ a : Ty.den (.int k), CV (ctx0 w) (Ty.av (.int k) a) v := by
  obtain ⟨n, rfl⟩ := okWide_int ht hv
  obtain ⟨fuel, hf⟩ := h
  obtain ⟨m, h1, _, hw⟩ := DataW.trod_int ht hf
  simp [Value.cells] at h1
  subst h1
  simp only [Lit.wf, Bool.and_eq_true, decide_eq_true_eq] at hw
  exact ⟨n, Ty.av_cv (c := ctx0 w) (.int k) n _ ⟨hw, rfl⟩⟩
theorem arg_bool {r : Reach} {b0 : Nat} {t : TypeId} {v : Value} {x : DataW H} {p : List MemPlace} (ht : P.underlying t = some .bool) (hv : Value.okWide P w r b0 t v) (h : DataW.Trod enc P w base spare held t v x p) :
    ∃ a : Ty.den .bool, CV (ctx0 w) (Ty.av .bool a) v := by
  obtain ⟨n, rfl⟩ := okWide_bool ht hv
  exact ⟨n, by simp [Ty.av, CV]⟩
theorem arg_slice {r : Reach} {b0 : Nat} {t u : TypeId} {e : Ty} {v : Value} {x : DataW H} {p : List MemPlace} (ht : P.underlying t = some (.slice u)) (hd : Rd enc P w base spare held (.slice e) t) (hv : Value.okWide P w r b0 t v) (h : DataW.Trod enc P w base spare held t v x p) :
    ∃ a : Ty.den (.slice e), CV (ctx0 w) (Ty.av (.slice e) a) v := by
  obtain ⟨A, len, cap, rfl⟩ := okWide_slice ht hv
  obtain ⟨fuel, hf⟩ := h
  obtain ⟨a, ha⟩ := hd fuel _ _ hf
  exact ⟨a, Ty.av_cv (c := ctx0 w) (.slice e) a _ ha⟩
theorem arg_struct {r : Reach} {b0 : Nat} {t : TypeId} {e : Ty} {fs : Array Field} {v : Value} {x : DataW H} {p : List MemPlace} (ht : P.underlying t = some (.struct fs)) (hag : e.agg = true) (hd : Rd enc P w base spare held e t) (hv : Value.okWide P w r b0 t v) (h : DataW.Trod enc P w base spare held t v x p) :
    ∃ a : e.den, CV (ctx0 w) (e.av a) v := by
  obtain ⟨cs, rfl, _⟩ := okWide_struct ht hv
  obtain ⟨fuel, hf⟩ := h
  obtain ⟨a, ha⟩ := hd fuel _ _ hf
  refine ⟨a, Ty.av_cv (c := ctx0 w) e a _ ?_⟩
  unfold Ty.V
  rw [if_pos hag]
  exact ⟨cs.toList, by simp, ha⟩
end

/-- A law that is said to answer true answers true, and leaves what was there. -/
theorem law_calls {P : Program} {f : FuncId} {s : Spc} (ok : FnOk P f s) (g : s.G) (hh : s.heap g = []) (hm : (s.con g).mods = []) (hpre : ∀ q ∈ (s.con g).pre, q) (hcon : ∀ val upd new, Con.has val upd new (s.con g) → val = .bool true) {W : World} {vals : Array Value}
    (hv : CVL (ctx0 W) (s.args g) vals.toList) : Calls P f vals W fun e W' => e = .returned (.bool true) ∧ Below W.heap.size W W' := by
  have hc : COk (ctx0 W) (s.heap g) := by
    rw [hh]
    exact ⟨fun p => by simp [ctx0], fun p it h => by simp at h, fun p q b h => h.elim, fun p b h => h.elim, fun b hb => ⟨hb, fun p h => h.elim⟩⟩
  refine (ok.calls g (ctx0 W) vals hpre hc hv).mono fun e w' hd => ?_
  obtain ⟨val, upd, new, cv, c', k1, rfl, rfl, k4, k5, k6⟩ := hd
  rw [hcon _ _ _ k1] at k6
  simp only [CV] at k6
  refine ⟨by rw [k6], k5.fr.os, k5.fr.tape, k5.fr.output, k5.fr.size, fun k hk => k5.fr.block k hk ?_⟩
  rintro ⟨p, hp, _⟩
  rw [hm] at hp
  cases hp
end Go.Proofs.Ytljimnhijpcjaaa.VC
