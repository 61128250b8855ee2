/- What is to be shown of functions, shown. Plain lemmas; no conditions but those that each names. -/
import Derived.Test.YtncecddhknfimaaAs
import Derived.KernelRfl
set_option linter.unusedVariables false
set_option linter.unusedSimpArgs false
set_option linter.unusedSectionVars false
namespace Go.Proofs.Ytncecddhknfimaa.VC
open Go
set_option maxRecDepth 100000

def vc22b : Prop := vc Try.f22.body Try.f22.results Try.f22.ntmps [(37, some sp37)] sp22b (fun _ => noAnn)
theorem vc22b_is : vc22b = (
∀ (g : NewArg), Holds (InR IntKind.i64 g.n) → Holds (within g.n (1 : Int) (2147483648 : Int) = true) → SplitB (!within g.n (1 : Int) (2147483648 : Int)) False ((0 : Int) = (0 : Int) ∧ g.n = g.n ∧ nilT (Int × Int × Int × Bool × Bool) = [])) := by kernel_rfl
theorem ok22b : vc22b := by
  rw [vc22b_is]
  intro g h1 h2
  exact ⟨fun a => by rw [h2.out] at a; simp at a, fun _ => ⟨rfl, rfl, rfl⟩⟩

def vc23b : Prop := vc Try.f23.body Try.f23.results Try.f23.ntmps [(22, some sp22b), (37, some sp37)] sp23b ann23
theorem vc23b_is : vc23b = (
∀ (g : LoadArg), Holds (kL.slice.ok g.p.fst) → Holds (kD.slice.ok g.p.snd.fst) → Holds (InR IntKind.i64 g.p.snd.snd) → Holds (LoadOk g.p) → Holds (within g.p.snd.snd (1 : Int) (2147483648 : Int) = true) ∧ SplitB ((0 : Int) != (0 : Int)) False (SplitB (decide ((↑g.p.fst.length : Int) > (32 : Int))) False ((∃ (x : LdAt), Holds (x.i ≤ g.p.fst.length ∧ x.last = lastOf (List.take x.i g.p.fst) ∧ goodL g.p.snd.snd (0 : Int) (List.take x.i g.p.fst)) ∧ (0 : Int) = (↑x.i : Int) ∧ (0 : Int) = x.last ∧ nilT (Int × Int × Int × Bool × Bool) = ents (List.take x.i g.p.fst)) ∧ ∀ (x : LdAt), Holds (x.i ≤ g.p.fst.length ∧ x.last = lastOf (List.take x.i g.p.fst) ∧ goodL g.p.snd.snd (0 : Int) (List.take x.i g.p.fst)) → SplitB (decide ((↑x.i : Int) < (↑g.p.fst.length : Int))) (Holds ((0 : Int) ≤ (↑x.i : Int)) ∧ Holds ((↑x.i : Int) < (↑g.p.fst.length : Int)) ∧ Holds ((↑x.i : Int).toNat < g.p.fst.length) ∧ SplitB (decide ((g.p.fst.getD (↑x.i : Int).toNat ((0 : Int), (0 : Int), false, false)).fst ≤ x.last)) False (SplitB (decide ((g.p.fst.getD (↑x.i : Int).toNat ((0 : Int), (0 : Int), false, false)).fst ≥ g.p.snd.snd)) False (SplitB (!within (g.p.fst.getD (↑x.i : Int).toNat ((0 : Int), (0 : Int), false, false)).snd.fst (1 : Int) (2147483647 : Int)) False (SplitB (g.p.fst.getD (↑x.i : Int).toNat ((0 : Int), (0 : Int), false, false)).snd.snd.fst (SplitB (g.p.fst.getD (↑x.i : Int).toNat ((0 : Int), (0 : Int), false, false)).snd.snd.snd False (Holds ((ents (List.take x.i g.p.fst)).length < maxLen) ∧ ∃ (y : LdAt), Holds (y.i ≤ g.p.fst.length ∧ y.last = lastOf (List.take y.i g.p.fst) ∧ goodL g.p.snd.snd (0 : Int) (List.take y.i g.p.fst)) ∧ Holds (g.p.fst.length - y.i < g.p.fst.length - x.i) ∧ IntKind.i64.wrap ((↑x.i : Int) + (1 : Int)) = (↑y.i : Int) ∧ (g.p.fst.getD (↑x.i : Int).toNat ((0 : Int), (0 : Int), false, false)).fst = y.last ∧ msetT kI kL (ents (List.take x.i g.p.fst)) (g.p.fst.getD (↑x.i : Int).toNat ((0 : Int), (0 : Int), false, false)).fst (g.p.fst.getD (↑x.i : Int).toNat ((0 : Int), (0 : Int), false, false)) = ents (List.take y.i g.p.fst))) (Holds ((ents (List.take x.i g.p.fst)).length < maxLen) ∧ ∃ (y : LdAt), Holds (y.i ≤ g.p.fst.length ∧ y.last = lastOf (List.take y.i g.p.fst) ∧ goodL g.p.snd.snd (0 : Int) (List.take y.i g.p.fst)) ∧ Holds (g.p.fst.length - y.i < g.p.fst.length - x.i) ∧ IntKind.i64.wrap ((↑x.i : Int) + (1 : Int)) = (↑y.i : Int) ∧ (g.p.fst.getD (↑x.i : Int).toNat ((0 : Int), (0 : Int), false, false)).fst = y.last ∧ msetT kI kL (ents (List.take x.i g.p.fst)) (g.p.fst.getD (↑x.i : Int).toNat ((0 : Int), (0 : Int), false, false)).fst (g.p.fst.getD (↑x.i : Int).toNat ((0 : Int), (0 : Int), false, false)) = ents (List.take y.i g.p.fst)))))) ((0 : Int) = (0 : Int) ∧ g.p.snd.snd = g.p.snd.snd ∧ ents (List.take x.i g.p.fst) = ents g.p.fst)))) := by kernel_rfl
theorem ok23b : vc23b := by
  rw [vc23b_is]
  intro g h1 h2 h3 h4
  obtain ⟨⟨live, dirty, next⟩⟩ := g
  dsimp only at *
  obtain ⟨l1, l2, l3⟩ := h4.out
  have hL : (live.length : Int) ≤ 9223372036854775807 := by have := h1.out.1; have := maxLen_is; omega
  have l2 : live.length ≤ 32 := l2
  refine ⟨⟨l1⟩, fun a => by simp at a, fun _ => ⟨fun hl => by simp at hl; omega, fun _ => ⟨⟨⟨0, 0⟩, ⟨by simp [lastOf, lastF, goodL]⟩, rfl, rfl, rfl⟩, fun x hx => ?_⟩⟩⟩
  obtain ⟨x1, x2, x3⟩ := hx.out
  have hn : (↑x.i : Int).toNat = x.i := by omega
  have hmax := maxLen_is
  rw [hn]
  refine ⟨fun hi => ?_, fun hi => ?_⟩
  · have hi : x.i < live.length := by simp at hi; omega
    obtain ⟨v, hv⟩ : ∃ v, live[x.i]? = some v := ⟨_, List.getElem?_eq_getElem hi⟩
    have hd : live.getD x.i (0, 0, false, false) = v := by simp [List.getD, hv]
    rw [hd]
    have good : x.last < v.1 ∧ v.1 < next ∧ 1 ≤ v.2.1 ∧ v.2.1 ≤ top ∧ ¬ (v.2.2.1 = true ∧ v.2.2.2 = true) := by
      have := goodL_at l3 hv
      rw [x2]
      exact this.2
    obtain ⟨g1, g2, g3, g4, g5⟩ := good
    have hlen : (ents (live.take x.i)).length = x.i := by simp [ents]; omega
    have go : Holds ((ents (live.take x.i)).length < maxLen) ∧ ∃ y : LdAt, Holds (y.i ≤ live.length ∧ y.last = lastOf (live.take y.i) ∧ goodL next 0 (live.take y.i)) ∧ Holds (live.length - y.i < live.length - x.i) ∧ IntKind.i64.wrap ((x.i : Int) + 1) = (y.i : Int) ∧ v.1 = y.last ∧ msetT kI kL (ents (live.take x.i)) v.1 v = ents (live.take y.i) := by
      have hlt : lastF 0 (live.take x.i) < v.1 := by rw [x2] at g1; unfold lastOf at g1; omega
      have hv' := (List.getElem?_eq_some_iff.1 hv).2
      have hs : live.take (x.i + 1) = live.take x.i ++ [v] := by rw [List.take_succ_eq_append_getElem hi, hv']
      refine ⟨⟨by rw [hlen]; omega⟩, ⟨x.i + 1, v.1⟩, ⟨hi, ?_, ?_⟩, ⟨(show live.length - (x.i + 1) < _ by omega)⟩, by rw [wrap64 (by omega) (by omega)]; rfl, rfl, ents_next hv x3 hlt⟩
      · show v.1 = lastOf (live.take (x.i + 1))
        rw [hs]; exact lastF_snoc.symm
      · show goodL next 0 (live.take (x.i + 1))
        rw [hs, goodL_snoc]
        exact ⟨x3, hlt, by omega, g3, g4, g5⟩
    exact ⟨⟨by omega⟩, ⟨by omega⟩, ⟨hi⟩, fun c1 => by simp at c1; omega, fun _ => ⟨fun c2 => by simp at c2; omega, fun _ => ⟨fun c3 => by simp [within, top] at c3 g4; omega, fun _ => ⟨fun c4 => ⟨fun c5 => g5 ⟨c4, c5⟩, fun _ => go⟩, fun _ => go⟩⟩⟩⟩
  · have hi : x.i = live.length := by simp at hi; omega
    exact ⟨rfl, rfl, by rw [hi, List.take_length]⟩

def vc21 : Prop := vc Try.f21.body Try.f21.results Try.f21.ntmps [(36, some sp36)] sp21 ann21
theorem vc21_is : vc21 = (
∀ (g : RecArg), Holds (kR.slice.ok g.l) → (∃ (x : NAt), Holds (x.i ≤ g.l.length ∧ rightF (0 : Int) g.l = rightF (↑x.i : Int) (List.drop x.i g.l)) ∧ (0 : Int) = (↑x.i : Int)) ∧ ∀ (x : NAt), Holds (x.i ≤ g.l.length ∧ rightF (0 : Int) g.l = rightF (↑x.i : Int) (List.drop x.i g.l)) → SplitB (decide ((↑x.i : Int) < (↑g.l.length : Int))) (Holds ((0 : Int) ≤ (↑x.i : Int)) ∧ Holds ((↑x.i : Int) < (↑g.l.length : Int)) ∧ Holds ((↑x.i : Int).toNat < g.l.length) ∧ SplitB ((g.l.getD (↑x.i : Int).toNat ((0 : Int), (0 : Int), (0 : Int), (0 : Int), ((0 : Int), (0 : Int)), ((0 : Int), (0 : Int)), (0 : Int), ((0 : Int), (0 : Int), ((0 : Int), (0 : Int)), (0 : Int)), [], [], (0 : Int))).fst != IntKind.i64.wrap ((↑x.i : Int) + (1 : Int))) (∃ (r : Int), Holds (r = rightF (0 : Int) g.l) ∧ (60 : Int) = r) (∀ (r : Int), Holds (r = checkR (g.l.getD (↑x.i : Int).toNat ((0 : Int), (0 : Int), (0 : Int), (0 : Int), ((0 : Int), (0 : Int)), ((0 : Int), (0 : Int)), (0 : Int), ((0 : Int), (0 : Int), ((0 : Int), (0 : Int)), (0 : Int)), [], [], (0 : Int)))) → SplitB (r != (0 : Int)) (∃ (r_1 : Int), Holds (r_1 = rightF (0 : Int) g.l) ∧ r = r_1) (∃ (y : NAt), Holds (y.i ≤ g.l.length ∧ rightF (0 : Int) g.l = rightF (↑y.i : Int) (List.drop y.i g.l)) ∧ Holds (g.l.length - y.i < g.l.length - x.i) ∧ IntKind.i64.wrap ((↑x.i : Int) + (1 : Int)) = (↑y.i : Int)))) (∃ (r : Int), Holds (r = rightF (0 : Int) g.l) ∧ (0 : Int) = r)) := by kernel_rfl
theorem ok21 : vc21 := by
  rw [vc21_is]
  intro g h1
  have hl := max63 h1.out.1
  refine ⟨⟨⟨0⟩, ⟨Nat.zero_le _, rfl⟩, rfl⟩, fun x hx => ?_⟩
  obtain ⟨i⟩ := x
  obtain ⟨k1, k2⟩ := hx.out
  dsimp only at k1 k2 ⊢
  simp only [Int.toNat_natCast]
  refine ⟨fun a => ?_, fun a => ?_⟩
  · have a : i < g.l.length := by simp at a; omega
    rw [drop_at a noR] at k2
    have k3 : rightF 0 g.l = if (g.l.getD i noR).1 ≠ (i : Int) + 1 then 60 else if checkR (g.l.getD i noR) ≠ 0 then checkR (g.l.getD i noR) else rightF ((i : Int) + 1) (g.l.drop (i + 1)) := k2
    rw [wrap_succ (by omega)]
    refine ⟨⟨by omega⟩, ⟨by omega⟩, ⟨a⟩, fun b => ?_, fun b => fun r hr => ⟨fun c => ?_, fun c => ?_⟩⟩
    · have b : (g.l.getD i noR).1 ≠ ((i + 1 : Nat) : Int) := bne_iff_ne.1 b
      exact ⟨_, ⟨rfl⟩, by rw [k3, if_pos (by omega)]⟩
    · have b : (g.l.getD i noR).1 = ((i + 1 : Nat) : Int) := bne_eq_false_iff_eq.1 b
      have hr : r = checkR (g.l.getD i noR) := hr.out
      have c : r ≠ 0 := by simpa using c
      exact ⟨_, ⟨rfl⟩, by rw [k3, if_neg (by omega), ← hr, if_pos c]⟩
    · have b : (g.l.getD i noR).1 = ((i + 1 : Nat) : Int) := bne_eq_false_iff_eq.1 b
      have hr : r = checkR (g.l.getD i noR) := hr.out
      have c : r = 0 := by simpa using c
      refine ⟨⟨i + 1⟩, ⟨a, ?_⟩, ⟨by show _ - (i + 1) < _; omega⟩, rfl⟩
      rw [k3, if_neg (by omega), ← hr, if_neg (by simpa using c)]
      rfl
  · have a : ¬ i < g.l.length := by simp at a; omega
    have : i = g.l.length := by omega
    subst this
    rw [List.drop_length] at k2
    exact ⟨_, ⟨rfl⟩, by rw [k2]; rfl⟩

end Go.Proofs.Ytncecddhknfimaa.VC
