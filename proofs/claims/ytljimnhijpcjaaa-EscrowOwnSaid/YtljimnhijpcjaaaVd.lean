/- What an abstract value stands for in memory, and what keeps it so. Plain lemmas; no conditions but those that each names. -/
import Derived.Test.YtljimnhijpcjaaaVca
import Derived.Laws.Rows
import Derived.Laws.Cells
import Derived.Laws.Entries
import Derived.Laws.IdiomRangeMap
set_option linter.unusedVariables false
set_option linter.unusedSimpArgs false
set_option linter.unusedSectionVars false
namespace Go.Proofs.Ytljimnhijpcjaaa.VC
open Go

/-! ### Data in memory that nobody writes -/

/-- The cells cs lie at ad and on. -/
def LieAt (w : World) (Im : Nat → Prop) (ad : Addr) (cs : List Value) : Prop := ∀ j u, cs[j]? = some u → Im ad.block ∧ w.cell? (ad.add j) = some u

def Ty.K (w : World) (Im : Nat → Prop) : (t : Ty) → t.den → List Value → Prop
  | .int k, (n : Int), cs => InR k n ∧ cs = [.int k n]
  | .bool, (b : Bool), cs => cs = [.bool b]
  | .unit, _, cs => cs = []
  | .pair a b, d, cs => ∃ c1 c2, cs = c1 ++ c2 ∧ a.K w Im d.1 c1 ∧ b.K w Im d.2 c2
  | .slice e, (xs : List e.den), cs => ∃ A cap, cs = [.slice A xs.length cap] ∧ xs.length ≤ cap ∧ (xs.length ≤ maxLen ∧ (A = none → cap = 0)) ∧
      (0 < xs.length → ∃ ad, A = some ad ∧ ∀ (i : Nat) (x : e.den), xs[i]? = some x → ∃ c, e.K w Im x c ∧ LieAt w Im (ad.add (i * e.sz)) c)
  | .ref _, (n : Nat), cs => cs = [refVal n]
  | .hdr _ _, (h : Lh), cs => h.ok ∧ cs = [h.val]

theorem Ty.K_len {w : World} {Im : Nat → Prop} : ∀ (t : Ty) (d : t.den) (cs : List Value), t.K w Im d cs → cs.length = t.sz
  | .int k, _, _, h => by rw [h.2]; rfl
  | .bool, _, _, h => by rw [show _ = _ from h]; rfl
  | .unit, _, _, h => by rw [show _ = _ from h]; rfl
  | .pair a b, d, cs, ⟨c1, c2, h, h1, h2⟩ => by rw [h, List.length_append, Ty.K_len a _ _ h1, Ty.K_len b _ _ h2]; rfl
  | .slice e, xs, cs, ⟨A, cap, h, _⟩ => by rw [h]; rfl
  | .ref _, _, _, h => by rw [show _ = _ from h]; rfl
  | .hdr _ _, _, _, h => by rw [h.2]; rfl

theorem Ty.K_ok {w : World} {Im : Nat → Prop} : ∀ (t : Ty) (d : t.den) (cs : List Value), t.K w Im d cs → t.ok d
  | .int k, _, _, h => h.1
  | .bool, _, _, _ => trivial
  | .unit, _, _, _ => trivial
  | .pair a b, d, cs, ⟨c1, c2, h, h1, h2⟩ => ⟨Ty.K_ok a _ _ h1, Ty.K_ok b _ _ h2⟩
  | .slice e, xs, cs, ⟨A, cap, h, _, hm, hr⟩ => ⟨hm.1, fun x hx => by
      obtain ⟨i, hi⟩ := List.getElem?_of_mem hx
      have h0 : 0 < xs.length := List.length_pos_of_mem hx
      obtain ⟨ad, _, hc⟩ := hr h0
      obtain ⟨c, hk, _⟩ := hc i x hi
      exact Ty.K_ok e _ _ hk⟩
  | .ref _, _, _, _ => trivial
  | .hdr _ _, _, _, h => h.1

theorem LieAt.mono {w w' : World} {Im Im' : Nat → Prop} {ad : Addr} {cs : List Value} (h : LieAt w Im ad cs) (hi : ∀ b, Im b → Im' b) (hw : ∀ b, Im b → w'.heap[b]? = w.heap[b]?) : LieAt w' Im' ad cs := fun j u hu => by
  obtain ⟨h1, h2⟩ := h j u hu
  refine ⟨hi _ h1, ?_⟩
  rw [← h2]
  exact World.cell?_of_block (hw (ad.add j).block (by rw [show (ad.add j).block = ad.block from by unfold Addr.add; split <;> rfl]; exact h1))

theorem Ty.K_mono {w w' : World} {Im Im' : Nat → Prop} (hi : ∀ b, Im b → Im' b) (hw : ∀ b, Im b → w'.heap[b]? = w.heap[b]?) : ∀ (t : Ty) (d : t.den) (cs : List Value), t.K w Im d cs → t.K w' Im' d cs
  | .int k, _, _, h => h
  | .bool, _, _, h => h
  | .unit, _, _, h => h
  | .pair a b, d, cs, ⟨c1, c2, h, h1, h2⟩ => ⟨c1, c2, h, Ty.K_mono hi hw a _ _ h1, Ty.K_mono hi hw b _ _ h2⟩
  | .slice e, xs, cs, ⟨A, cap, h, hc, hm, hr⟩ => ⟨A, cap, h, hc, hm, fun h0 => by
      obtain ⟨ad, ha, hr'⟩ := hr h0
      refine ⟨ad, ha, fun i x hx => ?_⟩
      obtain ⟨c, hk, hl⟩ := hr' i x hx
      exact ⟨c, Ty.K_mono hi hw e _ _ hk, hl.mono hi hw⟩⟩
  | .ref _, _, _, h => h
  | .hdr _ _, _, _, h => h

/-- The rows xs, each as e says, in cs one behind the other. -/
def RowsK (w : World) (Im : Nat → Prop) (e : Ty) : List e.den → List Value → Prop
  | [], cs => cs = []
  | x :: xs, cs => ∃ c1 c2, cs = c1 ++ c2 ∧ e.K w Im x c1 ∧ RowsK w Im e xs c2

theorem RowsK.len {w : World} {Im : Nat → Prop} {e : Ty} : ∀ {xs : List e.den} {cs : List Value}, RowsK w Im e xs cs → cs.length = xs.length * e.sz
  | [], _, h => by rw [show _ = _ from h]; simp
  | x :: xs, _, ⟨c1, c2, h, h1, h2⟩ => by rw [h, List.length_append, Ty.K_len e _ _ h1, RowsK.len h2, List.length_cons, Nat.add_mul]; omega
theorem RowsK.mono {w w' : World} {Im Im' : Nat → Prop} {e : Ty} (hi : ∀ b, Im b → Im' b) (hw : ∀ b, Im b → w'.heap[b]? = w.heap[b]?) : ∀ {xs : List e.den} {cs : List Value}, RowsK w Im e xs cs → RowsK w' Im' e xs cs
  | [], _, h => h
  | x :: xs, _, ⟨c1, c2, h, h1, h2⟩ => ⟨c1, c2, h, Ty.K_mono hi hw e _ _ h1, RowsK.mono hi hw h2⟩
theorem RowsK.append {w : World} {Im : Nat → Prop} {e : Ty} : ∀ {xs ys : List e.den} {cs ds : List Value}, RowsK w Im e xs cs → RowsK w Im e ys ds → RowsK w Im e (xs ++ ys) (cs ++ ds)
  | [], _, _, _, h, k => by rw [show _ = _ from h]; exact k
  | x :: xs, _, _, ds, ⟨c1, c2, h, h1, h2⟩, k => ⟨c1, c2 ++ ds, by rw [h, List.append_assoc], h1, RowsK.append h2 k⟩
/-- One row. -/
theorem RowsK.at {w : World} {Im : Nat → Prop} {e : Ty} : ∀ {xs : List e.den} {cs : List Value}, RowsK w Im e xs cs → ∀ (i : Nat) (x : e.den), xs[i]? = some x → ∃ c, e.K w Im x c ∧ ∀ j u, c[j]? = some u → cs[i * e.sz + j]? = some u
  | [], _, _, _, _, h => by simp at h
  | x :: xs, cs, ⟨c1, c2, h, h1, h2⟩, 0, y, hy => by
    simp at hy
    subst hy
    refine ⟨c1, h1, fun j u hj => ?_⟩
    have : j < c1.length := (List.getElem?_eq_some_iff.1 hj).1
    rw [h, Nat.zero_mul, Nat.zero_add, List.getElem?_append_left this]
    exact hj
  | x :: xs, cs, ⟨c1, c2, h, h1, h2⟩, i + 1, y, hy => by
    simp at hy
    obtain ⟨c, hk, hc⟩ := RowsK.at h2 i y hy
    refine ⟨c, hk, fun j u hj => ?_⟩
    have hl := Ty.K_len e _ _ h1
    rw [h, Nat.add_mul, List.getElem?_append_right (by omega)]
    rw [show i * e.sz + 1 * e.sz + j - c1.length = i * e.sz + j from by omega]
    exact hc j u hj
/-- Another row in the place of one. -/
theorem RowsK.set {w : World} {Im : Nat → Prop} {e : Ty} {y : e.den} {d : List Value} (hd : e.K w Im y d) : ∀ {xs : List e.den} {cs : List Value}, RowsK w Im e xs cs → ∀ (i : Nat), i < xs.length → RowsK w Im e (xs.set i y) (cs.take (i * e.sz) ++ d ++ cs.drop (i * e.sz + e.sz))
  | [], _, _, _, h => by simp at h
  | x :: xs, cs, ⟨c1, c2, h, h1, h2⟩, 0, _ => by
    have hl := Ty.K_len e _ _ h1
    refine ⟨d, c2, ?_, hd, h2⟩
    rw [h, Nat.zero_mul, List.take_zero, List.nil_append, Nat.zero_add, List.drop_append_of_le_length (by omega), List.drop_eq_nil_of_le (by omega), List.nil_append]
  | x :: xs, cs, ⟨c1, c2, h, h1, h2⟩, i + 1, hi => by
    have hl := Ty.K_len e _ _ h1
    simp at hi
    refine ⟨c1, _, ?_, h1, RowsK.set hd h2 i hi⟩
    have e1 : (i + 1) * e.sz = c1.length + i * e.sz := by rw [hl, Nat.add_mul]; omega
    rw [h, e1, List.take_length_add_append, Nat.add_assoc, List.drop_length_add_append, List.append_assoc, List.append_assoc, List.append_assoc]

/-! ### Values -/

structure Ctx where
  w : World
  D : Nat → Prop
  ρ : Nat → Value
  F : Nat → Nat → Prop
  Im : Nat → Prop

/-- A type's data as one value. -/
def Ty.V (c : Ctx) (t : Ty) (d : t.den) (v : Value) : Prop := if t.agg then ∃ l : List Value, v = .agg l.toArray ∧ t.K c.w c.Im d l else t.K c.w c.Im d [v]

mutual
def CV (c : Ctx) : AV → Value → Prop
  | .undef, _ => True
  | .skip, v => v = undef
  | .tt, v => v = .bool true
  | .ff, v => v = .bool false
  | .bool b, v => v = .bool b
  | .int k n, v => InR k n ∧ v = .int k n
  | .nptr, v => v = .pointer none
  | .ptr p off, v => c.D p ∧ ∃ b, c.ρ p = .pointer (some ⟨b, 0, none⟩) ∧ v = .pointer (some ⟨b, off, none⟩)
  | .eptr p i sz off, v => c.D p ∧ ∃ g n cap, c.ρ p = .slice (some ⟨g, 0, none⟩) n cap ∧ v = .pointer (some ⟨g, i * sz + off, none⟩)
  | .iptr e xs i off, v => ∃ ad : Addr, v = .pointer (some ((ad.add (i * e.sz)).add off)) ∧ ∀ x, xs[i]? = some x → ∃ cs, e.K c.w c.Im x cs ∧ LieAt c.w c.Im (ad.add (i * e.sz)) cs
  | .nsl, v => v = .slice none 0 0
  | .sl p, v => c.D p ∧ v = c.ρ p ∧ ∃ A n cap, v = .slice A n cap
  | .pfx p n, v => c.D p ∧ ∃ A m cap, c.ρ p = .slice A m cap ∧ v = .slice A n cap ∧ n ≤ m
  | .sub p l n z, v => c.D p ∧ ∃ A m cap, c.ρ p = .slice A m cap ∧ v = .slice (if cap = l then A else A.map (·.add (l * z))) n (cap - l) ∧ l + n ≤ m
  | .lst e xs, v => (Ty.slice e).K c.w c.Im xs [v]
  | .nmap, v => v = .map none
  | .map p, v => c.D p ∧ v = c.ρ p ∧ ∃ r, v = .map (some r)
  | .stamp p k key, v => c.D p ∧ ∃ (b : Nat) (es : Array MapEntry) (clock i : Nat) (x : MapEntry), c.ρ p = .map (some b) ∧ c.F p b ∧ c.w.heap[b]? = some (.map es clock) ∧ es[i]? = some x ∧ k.V c key x.key ∧ v = .int .i64 x.born
  | .nfn, v => v = .nilFunc
  | .vec k xs, v => v = .agg (xs.map (Value.int k)).toArray ∧ ∀ n ∈ xs, InR k n
  | .ref _ n, v => v = refVal n
  | .rp _ n off, v => 0 < n ∧ v = .pointer (some ⟨n - 1, off, none⟩)
  | .hd _ _ h, v => h.ok ∧ v = h.val
  | .hp _ b i sz off, v => 0 < b ∧ v = .pointer (some ⟨b - 1, i * sz + off, none⟩)
  | .fn f caps, v => ∃ l : List Value, v = .func (.func f) #[] l.toArray ∧ CVL c caps l
  | .agg cs, v => ∃ l : List Value, v = .agg l.toArray ∧ CVL c cs l
  | .tup vs, v => ∃ l : List Value, v = .tuple l.toArray ∧ CVL c vs l
def CVL (c : Ctx) : List AV → List Value → Prop
  | [], [] => True
  | a :: l, v :: m => CV c a v ∧ CVL c l m
  | _, _ => False
end

theorem CVL.len {c : Ctx} : ∀ {l : List AV} {m : List Value}, CVL c l m → l.length = m.length
  | [], [], _ => rfl
  | _ :: _, _ :: _, h => by simp [CVL.len h.2]
  | [], _ :: _, h => h.elim
  | _ :: _, [], h => h.elim
theorem CVL.append {c : Ctx} : ∀ {l l' : List AV} {m m' : List Value}, CVL c l m → CVL c l' m' → CVL c (l ++ l') (m ++ m')
  | [], _, [], _, _, h => h
  | _ :: _, _, _ :: _, _, h, k => ⟨h.1, CVL.append h.2 k⟩
  | [], _, _ :: _, _, h, _ => h.elim
  | _ :: _, _, [], _, h, _ => h.elim
theorem CVL.take {c : Ctx} : ∀ {l : List AV} {m : List Value} (n : Nat), CVL c l m → CVL c (l.take n) (m.take n)
  | _, _, 0, _ => by simp [CVL]
  | [], [], n + 1, _ => by simp [CVL]
  | _ :: _, _ :: _, n + 1, h => by simp only [List.take_succ_cons]; exact ⟨h.1, CVL.take n h.2⟩
  | [], _ :: _, _, h => h.elim
  | _ :: _, [], _, h => h.elim
theorem CVL.drop {c : Ctx} : ∀ {l : List AV} {m : List Value} (n : Nat), CVL c l m → CVL c (l.drop n) (m.drop n)
  | _, _, 0, h => h
  | [], [], n + 1, _ => by simp [CVL]
  | _ :: _, _ :: _, n + 1, h => by simp only [List.drop_succ_cons]; exact CVL.drop n h.2
  | [], _ :: _, _, h => h.elim
  | _ :: _, [], _, h => h.elim
theorem CVL.at {c : Ctx} : ∀ {l : List AV} {m : List Value} {i : Nat} {x : AV}, CVL c l m → l[i]? = some x → ∃ v, m[i]? = some v ∧ CV c x v
  | a :: l, v :: m, 0, x, h, hx => by simp at hx; subst hx; exact ⟨v, rfl, h.1⟩
  | a :: l, v :: m, i + 1, x, h, hx => by simp at hx; simpa using CVL.at h.2 hx
  | [], _, _, _, _, hx => by simp at hx
  | _ :: _, [], _, _, h, _ => h.elim

/-- A type's data is its cells. -/
theorem Ty.enc_cv {c : Ctx} : ∀ (t : Ty) (d : t.den) (cs : List Value), t.K c.w c.Im d cs → CVL c (t.enc d) cs
  | .int k, _, _, ⟨h, e⟩ => by rw [e]; exact ⟨⟨h, rfl⟩, trivial⟩
  | .bool, _, _, h => by rw [show _ = _ from h]; simp [Ty.enc, CVL, CV]
  | .unit, _, _, h => by rw [show _ = _ from h]; simp [Ty.enc, CVL]
  | .pair a b, d, cs, ⟨c1, c2, h, h1, h2⟩ => by rw [h]; exact CVL.append (Ty.enc_cv a _ _ h1) (Ty.enc_cv b _ _ h2)
  | .slice e, xs, cs, h => by
    obtain ⟨A, cap, h0, h1⟩ := h
    subst h0
    exact ⟨⟨A, cap, rfl, h1⟩, trivial⟩
  | .ref q, n, _, h => by rw [show _ = _ from h]; simp [Ty.enc, CVL, CV]
  | .hdr q e, l, _, ⟨h, e'⟩ => by rw [e']; exact ⟨⟨h, rfl⟩, trivial⟩

theorem Ty.av_cv {c : Ctx} (t : Ty) (d : t.den) (v : Value) (h : t.V c d v) : CV c (t.av d) v := by
  cases t with
  | int k => exact ⟨h.1, by simpa using h.2⟩
  | bool => simpa [Ty.V, Ty.agg, Ty.K, Ty.av, CV] using h
  | unit => obtain ⟨l, h1, h2⟩ := h; exact ⟨l, h1, by rw [show l = [] from h2]; trivial⟩
  | pair a b => obtain ⟨l, h1, h2⟩ := h; exact ⟨l, h1, Ty.enc_cv (.pair a b) d l h2⟩
  | slice e => simpa [Ty.V, Ty.agg, Ty.av, CV] using h
  | ref q => simpa [Ty.V, Ty.agg, Ty.K, Ty.av, CV] using h
  | hdr q e => exact ⟨h.1, by simpa using h.2⟩

theorem decI_cv {c : Ctx} {k : IntKind} {vs : List AV} {d : Int} {cs : List Value} (h : decI k vs = some d) (hv : CVL c vs cs) : InR k d ∧ cs = [.int k d] := by
  unfold decI at h
  split at h
  · rename_i j n
    split at h
    · rename_i hjk
      match cs, hv with
      | [v], ⟨hv, _⟩ =>
        simp only [CV] at hv
        simp at h
        subst h hjk
        exact ⟨hv.1, by rw [hv.2]⟩
    · simp at h
  · simp at h
theorem decB_cv {c : Ctx} {vs : List AV} {d : Bool} {cs : List Value} (h : decB vs = some d) (hv : CVL c vs cs) : cs = [.bool d] := by
  unfold decB at h
  split at h
  · match cs, hv with
    | [v], ⟨hv, _⟩ => simp only [CV] at hv; simp at h; rw [hv, h]
  · match cs, hv with
    | [v], ⟨hv, _⟩ => simp only [CV] at hv; simp at h; rw [hv, h]
  · match cs, hv with
    | [v], ⟨hv, _⟩ => simp only [CV] at hv; simp at h; rw [hv, h]
  · simp at h
theorem decS_cv {c : Ctx} {e : Ty} {vs : List AV} {d : List e.den} {cs : List Value} (h : decS e vs = some d) (hv : CVL c vs cs) : (Ty.slice e).K c.w c.Im d cs := by
  unfold decS at h
  split at h
  · match cs, hv with
    | [v], ⟨hv, _⟩ =>
      simp only [CV] at hv
      simp at h
      subst h
      exact ⟨none, 0, by rw [hv]; rfl, Nat.le_refl _, ⟨Nat.zero_le _, fun _ => rfl⟩, fun h0 => absurd h0 (by simp)⟩
  · split at h
    · rename_i he
      subst he
      simp at h
      subst h
      match cs, hv with
      | [v], ⟨hv, _⟩ => simpa only [CV] using hv
    · simp at h
  · simp at h

theorem decR_cv {c : Ctx} {q : Nat} {vs : List AV} {d : Nat} {cs : List Value} (h : decR q vs = some d) (hv : CVL c vs cs) : cs = [refVal d] := by
  unfold decR at h
  split at h
  · match cs, hv with
    | [v], ⟨hv, _⟩ => simp only [CV] at hv; simp at h; subst h; rw [hv]; rfl
  · rename_i q' n
    cases hb : Nat.beq q' q with
    | false => rw [hb] at h; cases h
    | true =>
      rw [hb] at h
      match cs, hv with
      | [v], ⟨hv, _⟩ => simp only [CV] at hv; simp at h; subst h; rw [hv]
  · cases h
theorem decH_cv {c : Ctx} {q : Nat} {e : Ty} {vs : List AV} {d : Lh} {cs : List Value} (h : decH q e vs = some d) (hv : CVL c vs cs) : d.ok ∧ cs = [d.val] := by
  unfold decH at h
  split at h
  · match cs, hv with
    | [v], ⟨hv, _⟩ => simp only [CV] at hv; simp at h; subst h; rw [hv]; exact ⟨⟨Nat.le_refl _, Nat.zero_le _, fun _ => rfl⟩, rfl⟩
  · rename_i q' e' l
    cases hb : Nat.beq q' q && decide (e' = e) with
    | false => rw [hb] at h; cases h
    | true =>
      rw [hb] at h
      match cs, hv with
      | [v], ⟨hv, _⟩ => simp only [CV] at hv; simp at h; subst h; rw [hv.2]; exact ⟨hv.1, rfl⟩
  · cases h

theorem Ty.dec_cv {c : Ctx} : ∀ (t : Ty) (vs : List AV) (d : t.den) (cs : List Value), t.dec vs = some d → CVL c vs cs → t.K c.w c.Im d cs
  | .int k, vs, d, cs, h, hv => decI_cv h hv
  | .bool, vs, d, cs, h, hv => decB_cv h hv
  | .unit, vs, d, cs, h, hv => by
    simp only [Ty.dec] at h
    unfold decU at h
    split at h
    · match cs, hv with
      | [], _ => exact rfl
    · simp at h
  | .pair a b, vs, d, cs, h, hv => by
    simp only [Ty.dec] at h
    split at h
    · rename_i x y h1 h2
      simp at h
      subst h
      exact ⟨cs.take a.sz, cs.drop a.sz, (List.take_append_drop ..).symm, Ty.dec_cv a _ _ _ h1 (hv.take _), Ty.dec_cv b _ _ _ h2 (hv.drop _)⟩
    · simp at h
  | .slice e, vs, d, cs, h, hv => decS_cv h hv
  | .ref q, vs, d, cs, h, hv => decR_cv h hv
  | .hdr q e, vs, d, cs, h, hv => decH_cv h hv

theorem Ty.ofAV_cv {c : Ctx} {t : Ty} {v : AV} {d : t.den} {cv : Value} (h : t.ofAV v = some d) (hv : CV c v cv) : t.V c d cv := by
  unfold Ty.ofAV at h
  unfold Ty.V
  split at h
  · rename_i cs
    split at h
    · rename_i ha
      simp only [CV] at hv
      obtain ⟨l, h1, h2⟩ := hv
      rw [if_pos ha]
      exact ⟨l, h1, Ty.dec_cv t cs d l h h2⟩
    · simp at h
  · split at h
    · simp at h
    · rename_i ha
      rw [if_neg ha]
      exact Ty.dec_cv t _ d [cv] h ⟨hv, trivial⟩
theorem Ty.V_cells {c : Ctx} {t : Ty} {d : t.den} {v : Value} (h : t.V c d v) : t.K c.w c.Im d v.cells.toList := by
  unfold Ty.V at h
  split at h
  · obtain ⟨l, h1, h2⟩ := h
    subst h1
    simpa [Value.cells] using h2
  · have hl := Ty.K_len t d _ h
    cases t with
    | int k => obtain ⟨h1, h2⟩ := h
               obtain rfl : v = .int k d := by simpa using h2
               exact ⟨h1, rfl⟩
    | bool => obtain rfl : v = .bool d := by simpa [Ty.K] using h
              exact rfl
    | unit => simp [Ty.agg] at *
    | pair a b => simp [Ty.agg] at *
    | slice e => obtain ⟨A, cap, h0, h1⟩ := h
                 obtain rfl : v = .slice A (List.length d) cap := by simpa using h0
                 exact ⟨A, cap, rfl, h1⟩
    | ref q => obtain rfl : v = refVal d := by simpa [Ty.K] using h
               cases d <;> exact rfl
    | hdr q e => obtain ⟨h1, h2⟩ := h
                 obtain rfl : v = Lh.val d := by simpa using h2
                 refine ⟨h1, ?_⟩
                 obtain ⟨b, n, c'⟩ := d
                 cases b <;> rfl

/-! ### The same under another world -/

structure Ext (c c' : Ctx) (keys rel : Nat → Prop) : Prop where
  D : ∀ p, c.D p → c'.D p
  ρ : ∀ p, c.D p → ¬ rel p → c'.ρ p = c.ρ p
  F : ∀ p, c.D p → ¬ keys p → ∀ b, c'.F p b ↔ c.F p b
  Im : ∀ b, c.Im b → c'.Im b
  imw : ∀ b, c.Im b → c'.w.heap[b]? = c.w.heap[b]?
  fw : ∀ p b, c.D p → ¬ keys p → c.F p b → c'.w.heap[b]? = c.w.heap[b]?
  sub : ∀ p, rel p → keys p ∧ (c.D p → ∃ A n cap, c.ρ p = .slice A n cap)

mutual
/-- No stamp of these places, no name of those. -/
def AV.clear (keys rel : Nat → Prop) : AV → Prop
  | .eptr q _ _ _ => ¬ rel q
  | .sl q => ¬ rel q
  | .pfx q _ => ¬ rel q
  | .sub q _ _ _ => ¬ rel q
  | .stamp q _ _ => ¬ keys q
  | .fn _ cs => AV.clearL keys rel cs
  | .agg cs => AV.clearL keys rel cs
  | .tup cs => AV.clearL keys rel cs
  | _ => True
def AV.clearL (keys rel : Nat → Prop) : List AV → Prop
  | [] => True
  | v :: l => v.clear keys rel ∧ AV.clearL keys rel l
end

theorem Ty.V_ext {c c' : Ctx} {keys rel : Nat → Prop} (h : Ext c c' keys rel) {t : Ty} {d : t.den} {v : Value} (hv : t.V c d v) : t.V c' d v := by
  unfold Ty.V at *
  split
  · rename_i ha
    rw [if_pos ha] at hv
    obtain ⟨l, h1, h2⟩ := hv
    exact ⟨l, h1, Ty.K_mono h.Im h.imw t d l h2⟩
  · rename_i ha
    rw [if_neg ha] at hv
    exact Ty.K_mono h.Im h.imw t d _ hv

mutual
theorem CV.ext {c c' : Ctx} {keys rel : Nat → Prop} (h : Ext c c' keys rel) : ∀ (v : AV) (cv : Value), v.clear keys rel → CV c v cv → CV c' v cv
  | .undef, _, _, _ => by simp [CV]
  | .skip, _, _, hv => by simpa [CV] using hv
  | .tt, _, _, hv => by simpa [CV] using hv
  | .ff, _, _, hv => by simpa [CV] using hv
  | .bool b, _, _, hv => by simpa [CV] using hv
  | .int k n, _, _, hv => by simpa [CV] using hv
  | .nptr, _, _, hv => by simpa [CV] using hv
  | .ptr p off, _, hc, hv => by
    simp only [CV] at *
    rw [h.ρ p hv.1 (fun hr => by
      obtain ⟨A, n, cp, e⟩ := (h.sub p hr).2 hv.1
      obtain ⟨b, e', _⟩ := hv.2
      rw [e] at e'; cases e')]
    exact ⟨h.D p hv.1, hv.2⟩
  | .eptr p i sz off, _, hc, hv => by
    simp only [CV, AV.clear] at *
    rw [h.ρ p hv.1 hc]
    exact ⟨h.D p hv.1, hv.2⟩
  | .iptr e xs i off, _, _, hv => by
    simp only [CV] at *
    obtain ⟨ad, h1, h2⟩ := hv
    refine ⟨ad, h1, fun x hx => ?_⟩
    obtain ⟨cs, h3, h4⟩ := h2 x hx
    exact ⟨cs, Ty.K_mono h.Im h.imw e _ _ h3, h4.mono h.Im h.imw⟩
  | .nsl, _, _, hv => by simpa [CV] using hv
  | .sl p, _, hc, hv => by
    simp only [CV, AV.clear] at *
    rw [h.ρ p hv.1 hc]
    exact ⟨h.D p hv.1, hv.2⟩
  | .pfx p n, _, hc, hv => by
    simp only [CV, AV.clear] at *
    rw [h.ρ p hv.1 hc]
    exact ⟨h.D p hv.1, hv.2⟩
  | .sub p l n z, _, hc, hv => by
    simp only [CV, AV.clear] at *
    rw [h.ρ p hv.1 hc]
    exact ⟨h.D p hv.1, hv.2⟩
  | .lst e xs, _, _, hv => by
    simp only [CV] at *
    exact Ty.K_mono h.Im h.imw (.slice e) _ _ hv
  | .nmap, _, _, hv => by simpa [CV] using hv
  | .map p, _, hc, hv => by
    simp only [CV] at *
    rw [h.ρ p hv.1 (fun hr => by
      obtain ⟨A, n, cp, e⟩ := (h.sub p hr).2 hv.1
      obtain ⟨e1, r, e'⟩ := hv.2
      rw [← e1, e'] at e; cases e)]
    exact ⟨h.D p hv.1, hv.2⟩
  | .stamp p k key, _, hc, hv => by
    simp only [CV, AV.clear] at *
    obtain ⟨hd, b, es, clock, i, x, h1, h2, h3, h4, h5, h6⟩ := hv
    refine ⟨h.D p hd, b, es, clock, i, x, ?_, (h.F p hd hc b).2 h2, (h.fw p b hd hc h2).trans h3, h4, Ty.V_ext h h5, h6⟩
    rw [h.ρ p hd (fun hr => hc (h.sub p hr).1)]
    exact h1
  | .nfn, _, _, hv => by simpa [CV] using hv
  | .vec _ _, _, _, hv => by simpa [CV] using hv
  | .ref _ _, _, _, hv => by simpa [CV] using hv
  | .rp _ _ _, _, _, hv => by simpa [CV] using hv
  | .hd _ _ _, _, _, hv => by simpa [CV] using hv
  | .hp _ _ _ _ _, _, _, hv => by simpa [CV] using hv
  | .fn f caps, _, hc, hv => by
    simp only [CV, AV.clear] at *
    obtain ⟨l, h1, h2⟩ := hv
    exact ⟨l, h1, CVL.ext h caps l hc h2⟩
  | .agg cs, _, hc, hv => by
    simp only [CV, AV.clear] at *
    obtain ⟨l, h1, h2⟩ := hv
    exact ⟨l, h1, CVL.ext h cs l hc h2⟩
  | .tup cs, _, hc, hv => by
    simp only [CV, AV.clear] at *
    obtain ⟨l, h1, h2⟩ := hv
    exact ⟨l, h1, CVL.ext h cs l hc h2⟩
theorem CVL.ext {c c' : Ctx} {keys rel : Nat → Prop} (h : Ext c c' keys rel) : ∀ (l : List AV) (m : List Value), AV.clearL keys rel l → CVL c l m → CVL c' l m
  | [], [], _, _ => trivial
  | v :: l, cv :: m, hc, hv => ⟨CV.ext h v cv hc.1 hv.1, CVL.ext h l m hc.2 hv.2⟩
  | [], _ :: _, _, hv => hv.elim
  | _ :: _, [], _, hv => hv.elim
end
end Go.Proofs.Ytljimnhijpcjaaa.VC
