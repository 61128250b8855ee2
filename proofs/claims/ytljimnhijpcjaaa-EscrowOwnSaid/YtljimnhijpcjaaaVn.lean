/- Lists of one's own: literals and growth. Plain lemmas; no conditions but those that each names. -/
import Derived.Test.YtljimnhijpcjaaaVm
set_option linter.unusedVariables false
set_option linter.unusedSimpArgs false
set_option linter.unusedSectionVars false
namespace Go.Proofs.Ytljimnhijpcjaaa.VC
open Go

theorem Ty.K_one {w : World} {Im : Nat → Prop} : ∀ (t : Ty) (d : t.den) (cs : List Value), t.K w Im d cs → ∀ u ∈ cs, u.oneCell' = true
  | .int k, _, _, h, u, hu => by rw [h.2] at hu; simp at hu; subst hu; rfl
  | .bool, _, _, h, u, hu => by rw [show _ = _ from h] at hu; simp at hu; subst hu; rfl
  | .unit, _, _, h, u, hu => by rw [show _ = _ from h] at hu; cases hu
  | .pair a b, d, cs, ⟨c1, c2, h, h1, h2⟩, u, hu => by
    rw [h] at hu
    rcases List.mem_append.1 hu with hu | hu
    · exact Ty.K_one a _ _ h1 u hu
    · exact Ty.K_one b _ _ h2 u hu
  | .slice e, xs, cs, ⟨A, cap, h, _⟩, u, hu => by rw [h] at hu; simp at hu; subst hu; rfl
  | .ref q, n, cs, h, u, hu => by rw [show _ = _ from h] at hu; simp at hu; subst hu; exact refVal_one _
  | .hdr q e, n, cs, h, u, hu => by rw [h.2] at hu; simp at hu; subst hu; unfold Lh.val; split <;> rfl
theorem RowsK.one {w : World} {Im : Nat → Prop} {e : Ty} : ∀ {xs : List e.den} {cs : List Value}, RowsK w Im e xs cs → ∀ u ∈ cs, u.oneCell' = true
  | [], _, h, u, hu => by rw [show _ = _ from h] at hu; cases hu
  | x :: xs, _, ⟨c1, c2, h, h1, h2⟩, u, hu => by
    rw [h] at hu
    rcases List.mem_append.1 hu with hu | hu
    · exact Ty.K_one e _ _ h1 u hu
    · exact RowsK.one h2 u hu

/-- Rows out of elements that lie one behind the other. -/
theorem rows_of {w : World} {Im : Nat → Prop} {e : Ty} {ad : Addr} : ∀ (xs : List e.den) (i : Nat), (∀ (j : Nat) (x : e.den), xs[j]? = some x → ∃ cs, e.K w Im x cs ∧ LieAt w Im (ad.add ((i + j) * e.sz)) cs) →
    ∃ cs, RowsK w Im e xs cs ∧ ∀ n u, cs[n]? = some u → w.cell? (ad.add (i * e.sz + n)) = some u
  | [], i, _ => ⟨[], rfl, fun n u h => by simp at h⟩
  | x :: xs, i, h => by
    obtain ⟨c1, k1, l1⟩ := h 0 x rfl
    obtain ⟨c2, k2, l2⟩ := rows_of xs (i + 1) (fun j y hy => by
      obtain ⟨cs, k, l⟩ := h (j + 1) y (by simpa using hy)
      exact ⟨cs, k, by rw [show i + 1 + j = i + (j + 1) from by omega]; exact l⟩)
    refine ⟨c1 ++ c2, ⟨c1, c2, rfl, k1, k2⟩, fun n u hn => ?_⟩
    have hl1 := Ty.K_len e _ _ k1
    rcases Nat.lt_or_ge n c1.length with hlt | hge
    · rw [List.getElem?_append_left hlt] at hn
      have := (l1 n u hn).2
      rw [Go.Deep.add_add] at this
      exact this
    · rw [List.getElem?_append_right hge] at hn
      have := l2 _ u hn
      rw [show (i + 1) * e.sz + (n - c1.length) = i * e.sz + n from by rw [Nat.add_mul]; omega] at this
      exact this

section
variable {P : Program} {tt : TypeId → Option TI} {eqt : TypeId → Option (List EF)} {sp : FuncId → Option Spc} {E : Env} {st : St} {a : Act} {c : Ctx} {hold : List Nat} {K : St → Prop} {Q : Exit → Act → World → Prop} {o : Oper}

/-- A slice that reads as data. -/
structure SrcAt (c : Ctx) (e : Ty) (ys : List e.den) (v : Value) (A : Option Addr) (cap : Nat) (news : List Value) : Prop where
  v : v = .slice A ys.length cap
  rows : RowsK c.w c.Im e ys news
  cells : ∀ ad, A = some ad → ∀ j u, news[j]? = some u → c.w.cell? (ad.add j) = some u
  nil : A = none → ys = [] ∧ cap = 0
  le : ys.length ≤ maxLen

theorem rows_mid {w : World} {Im : Nat → Prop} {e : Ty} : ∀ {xs : List e.den} {cs : List Value} (l n : Nat), RowsK w Im e xs cs → RowsK w Im e ((xs.drop l).take n) ((cs.drop (l * e.sz)).take (n * e.sz))
  | [], cs, l, n, h => by rw [show cs = [] from h]; simp [RowsK]
  | x :: xs, cs, 0, 0, h => by simp [RowsK]
  | x :: xs, cs, 0, n + 1, ⟨c1, c2, h, h1, h2⟩ => by
    have hl := Ty.K_len e _ _ h1
    have := rows_mid 0 n h2
    rw [Nat.zero_mul, List.drop_zero, List.drop_zero] at this ⊢
    rw [List.take_succ_cons]
    refine ⟨c1, c2.take (n * e.sz), ?_, h1, this⟩
    rw [h, show (n + 1) * e.sz = c1.length + n * e.sz from by rw [hl, Nat.add_mul]; omega, List.take_length_add_append]
  | x :: xs, cs, l + 1, n, ⟨c1, c2, h, h1, h2⟩ => by
    have hl := Ty.K_len e _ _ h1
    have := rows_mid l n h2
    rw [List.drop_succ_cons, h, show (l + 1) * e.sz = c1.length + l * e.sz from by rw [hl, Nat.add_mul]; omega, List.drop_length_add_append]
    exact this
theorem sub_src (h : ROk E st a c) {p : Nat} {t : TypeId} {e : Ty} {xs : List e.den} (hat : st.at p = .arr t e xs) (hD : c.D p) {A : Option Addr} {cap l n : Nat} (e1 : c.ρ p = .slice A xs.length cap) (hn : l + n ≤ xs.length) :
    ∃ A' cap' news, SrcAt c e ((xs.drop l).take n) (.slice (if cap = l then A else A.map (·.add (l * e.sz))) n (cap - l)) A' cap' news := by
  have hi := h.it p hD
  rw [hat] at hi
  obtain ⟨cs, h1, h2, h3⟩ := hi
  have hlen : ((xs.drop l).take n).length = n := by rw [List.length_take, List.length_drop]; omega
  rcases h1.2 with ⟨hz, hz0⟩ | ⟨g, cap0, cur, hv, _, hgg, k1, k2, k3, k4⟩
  · rw [e1] at hz
    simp at hz
    obtain ⟨rfl, _, rfl⟩ := hz
    have : xs = [] := List.eq_nil_of_length_eq_zero hz0
    subst this
    have hn0 : n = 0 := by simp at hn; omega
    subst hn0
    exact ⟨none, 0, [], by simp, by simp [RowsK], fun _ h => absurd h (by simp), fun _ => ⟨by simp, rfl⟩, by simp⟩
  · rw [e1] at hv
    simp at hv
    obtain ⟨rfl, rfl⟩ := hv
    have hcs := rows_mid l n h2
    by_cases hcl : cap = l
    · have hn0 : n = 0 := by omega
      subst hn0
      rw [if_pos hcl]
      refine ⟨some ⟨g, 0, none⟩, cap - l, [], by simp, by simp [RowsK], fun ad ha j u hj => absurd hj (by simp), fun h => absurd h (by simp), by simp⟩
    · rw [if_neg hcl]
      refine ⟨some ((⟨g, 0, none⟩ : Addr).add (l * e.sz)), cap - l, _, by rw [hlen]; rfl, hcs, fun ad ha j u hj => ?_, fun h => absurd h (by simp), by rw [hlen]; omega⟩
      simp at ha; subst ha
      rw [Go.Deep.add_add]
      have hj2 : cs[l * e.sz + j]? = some u := by
        rw [List.getElem?_take] at hj
        split at hj
        · rwa [List.getElem?_drop] at hj
        · cases hj
      exact h1.cells (g := g) (by rw [e1]; rfl) (l * e.sz + j) u hj2

/-- A list of a pool, as a row of one's own. -/
theorem hd_owns {c : Ctx} {p q : Nat} {t : TypeId} {e : Ty} {PL : List (Nat × Nat × List e.den)} (h : IOk c p (.apool q t e PL)) {b k : Nat} {xs : List e.den} (hg : pget PL b = some (k, xs)) {n : Nat} (hn : n ≤ xs.length) :
    ∃ cur : Array Value, 0 < b ∧ c.F p (b - 1) ∧ c.w.heap[b - 1]? = some (.cells cur t (0, 0)) ∧ xs.length ≤ k ∧ k ≤ maxLen ∧ cur.size = k * e.sz ∧ RowsK c.w c.Im e xs (cur.toList.take (xs.length * e.sz)) ∧
      RowsK c.w c.Im e (xs.take n) (cur.toList.take (n * e.sz)) ∧ c.w.ownsRow 0 t e.sz (.slice (some ⟨b - 1, 0, none⟩) n k) n (cur.toList.take (n * e.sz)) := by
  obtain ⟨_, h1, h2, h3, h4⟩ := h
  have hm := pget_mem hg
  have hb := h2.2 _ hm
  obtain ⟨k1, k2, cur, k3, k4, k5⟩ := h3 _ hm
  have hr := rows_mid 0 n k5
  rw [Nat.zero_mul, List.drop_zero, List.drop_zero, List.take_take, Nat.min_eq_left (Nat.mul_le_mul_right _ hn)] at hr
  dsimp only at k1 k2 k3 k4 hb hr
  have hl : (cur.toList.take (n * e.sz)).length = n * e.sz := by rw [List.length_take, Array.length_toList, k4]; exact Nat.min_eq_left (Nat.mul_le_mul_right _ (by omega))
  exact ⟨cur, hb, (h4 _).2 ⟨_, hm, by dsimp only; omega⟩, k3, k1, k2, k4, k5, hr, hl, .inr ⟨b - 1, k, cur, rfl, Nat.zero_le _, k3, by omega, k2, k4, rfl⟩⟩
theorem src_at (h : ROk E st a c) {e : Ty} {x : AV} {xv : Value} {ys : List e.den} (hd : dataA st e x = some ys) (hpre : ∀ q ∈ preA st x, q) (hx : CV c x xv) : ∃ A cap news, SrcAt c e ys xv A cap news := by
  unfold dataA at hd
  split at hd
  · simp at hd; subst hd
    simp only [CV] at hx
    subst hx
    exact ⟨none, 0, [], rfl, rfl, fun _ h => absurd h (by simp), fun _ => ⟨rfl, rfl⟩, Nat.zero_le _⟩
  · rename_i e' xs
    split at hd
    · rename_i he
      subst he
      simp at hd; subst hd
      simp only [CV] at hx
      obtain ⟨A, cap, h1, h2, h3, h4⟩ := hx
      simp at h1
      subst h1
      rcases Nat.eq_zero_or_pos xs.length with h0 | h0
      · have : xs = [] := List.eq_nil_of_length_eq_zero h0
        subst this
        exact ⟨A, cap, [], rfl, rfl, fun ad _ j u hj => absurd hj (by simp), fun hA => ⟨rfl, h3.2 hA⟩, h3.1⟩
      · obtain ⟨ad, rfl, hrow⟩ := h4 h0
        obtain ⟨cs, k1, k2⟩ := rows_of (ad := ad) xs 0 (fun j x hx => by
          obtain ⟨cs, k, l⟩ := hrow j x hx
          exact ⟨cs, k, by rw [Nat.zero_add]; exact l⟩)
        refine ⟨some ad, cap, cs, rfl, k1, fun ad' ha j u hj => ?_, fun h => absurd h (by simp), h3.1⟩
        simp at ha; subst ha
        have := k2 j u hj
        rwa [Nat.zero_mul, Nat.zero_add] at this
    · cases hd
  · rename_i p
    split at hd
    · rename_i te e' xs hat
      split at hd
      · rename_i he
        subst he
        simp at hd; subst hd
        simp only [CV] at hx
        obtain ⟨hD, rfl, _⟩ := hx
        have hi := h.it p hD
        rw [hat] at hi
        have hi' := hi
        obtain ⟨cs, h1, h2, h3⟩ := hi
        rcases h1.2 with ⟨hn, hz⟩ | ⟨g, cap, cur, hv, _, hgg, k1, k2, k3, k4⟩
        · have : xs = [] := List.eq_nil_of_length_eq_zero hz
          subst this
          exact ⟨none, 0, [], by rw [hn]; rfl, rfl, fun _ h => absurd h (by simp), fun _ => ⟨rfl, rfl⟩, Nat.zero_le _⟩
        · refine ⟨some ⟨g, 0, none⟩, cap, cs, hv, h2, fun ad ha j u hj => ?_, fun h => absurd h (by simp), by omega⟩
          simp at ha; subst ha
          exact h1.cells (g := g) (by rw [hv]; rfl) j u hj
      · cases hd
    · cases hd
  · rename_i p n
    split at hd
    · rename_i te e' xs hat
      split at hd
      · rename_i he
        subst he
        simp at hd; subst hd
        simp only [CV] at hx
        obtain ⟨hD, A, m, cap, e1, rfl, hn⟩ := hx
        have hi := h.it p hD
        rw [hat] at hi
        obtain ⟨A', cap', e2, hmx, hmc⟩ := arr_shape hi
        rw [e1] at e2
        simp at e2
        obtain ⟨rfl, rfl, rfl⟩ := e2
        have h0 : (if cap = 0 then A else A.map (·.add (0 * e'.sz))) = A := by
          split
          · rfl
          · cases A <;> simp [Addr.add_zero']
        have := sub_src h hat hD e1 (l := 0) (n := n) (by omega)
        rw [h0] at this
        simpa using this
      · cases hd
    · cases hd
  · rename_i p lo n z
    split at hd
    · rename_i te e' xs hat
      split at hd
      · rename_i he
        subst he
        cases hz : Nat.beq z e'.sz with
        | false => rw [hz] at hd; cases hd
        | true =>
          rw [hz] at hd
          simp at hd; subst hd
          have hz := Nat.eq_of_beq_eq_true hz
          subst hz
          simp only [CV] at hx
          obtain ⟨hD, A, m, cap, e1, rfl, hn⟩ := hx
          have hi := h.it p hD
          rw [hat] at hi
          obtain ⟨A', cap', e2, hmx, hmc⟩ := arr_shape hi
          rw [e1] at e2
          simp at e2
          obtain ⟨rfl, rfl, rfl⟩ := e2
          exact sub_src h hat hD e1 hn
      · cases hd
    · cases hd
  · rename_i q e'' g
    split at hd
    · rename_i p hp
      split at hd
      · rename_i q' te e' PL hat
        split at hd
        · rename_i he
          subst he
          cases hz : decide (e'' = e') with
          | false => rw [hz] at hd; cases hd
          | true =>
            rw [hz] at hd
            simp at hd; subst hd
            have hn : g.n ≤ (pget2 PL g.b).length := hpre _ (by simp [preA, hp, hat])
            simp only [CV] at hx
            obtain ⟨⟨g1, g2, g3⟩, rfl⟩ := hx
            have hD : c.D p := (h.Dk p).2 (poolAt_key hp)
            have hi := h.it p hD
            rw [hat] at hi
            have hlen : ((pget2 PL g.b).take g.n).length = g.n := by rw [List.length_take]; omega
            rcases Nat.eq_zero_or_pos g.b with h0 | h0
            · have hc := g3 h0
              have hn0 : g.n = 0 := by omega
              refine ⟨none, 0, [], ?_, ?_, fun _ h => absurd h (by simp), fun _ => ⟨by rw [hn0]; simp, rfl⟩, by rw [hlen]; omega⟩
              · unfold Lh.val; rw [hlen, h0, hc]
              · rw [hn0]; simp [RowsK]
            · have hv : g.val = .slice (some ⟨g.b - 1, 0, none⟩) g.n g.c := by
                unfold Lh.val
                split
                · omega
                · rename_i b hb; rw [hb]; rfl
              rcases Nat.eq_zero_or_pos g.n with hn0 | hn0
              · refine ⟨some ⟨g.b - 1, 0, none⟩, g.c, [], by rw [hlen]; exact hv, by rw [hn0]; simp [RowsK], fun ad _ j u hj => absurd hj (by simp), fun h => absurd h (by simp), by rw [hlen]; omega⟩
              · obtain ⟨k, _, k0, _⟩ := apool_list (b := g.b) hi (by omega)
                obtain ⟨cur, j1, j2, j3, j4, j5, j6, j7, j8, j9⟩ := hd_owns hi k0 hn
                refine ⟨some ⟨g.b - 1, 0, none⟩, g.c, _, by rw [hlen]; exact hv, j8, fun ad ha j u hj => ?_, fun h => absurd h (by simp), by rw [hlen]; omega⟩
                simp at ha; subst ha
                exact j9.cells (g := g.b - 1) rfl j u hj
        · cases hd
      · cases hd
    · cases hd
  · cases hd

/-- append onto a list of one's own, or none. -/
theorem append_run {t ty te : TypeId} {ei : TI} (Te : TIok P te ei) {e : Ty} (hty : ei.ty = some e) (hu : P.underlying t = some (.slice te)) (hs1 : 1 ≤ ei.size) (hb1 : 1 ≤ ei.bytes) {v : Value} {n : Nat} {olds : List Value} (hown : c.w.ownsRow 0 te e.sz v n olds)
    {ys : List e.den} {xv : Value} {A : Option Addr} {cap : Nat} {news : List Value} (hsrc : SrcAt c e ys xv A cap news) (hbytes : (n + ys.length) * ei.bytes ≤ 140737488355328) :
    ∃ v' w', (Builtin.append_ #[t, t] ty #[v, xv]).run P c.w = .ok v' w' ∧ w'.ownsRow 0 te e.sz v' (n + ys.length) (olds ++ news) ∧ c.w.grownBy w' v.ownBlock ∧ ∀ b, v'.ownBlock = some b → v.ownBlock = some b ∨ c.w.heap.size ≤ b := by
  obtain ⟨i, hi1, hi2, hi3, hi4⟩ := Te.info
  obtain ⟨hsz, _, hzc⟩ := Te.ty e hty
  have hzs : ei.zero.cells.size = e.sz := by
    have := congrArg List.length hzc
    rw [Array.length_toList] at this
    rw [this]
    have hz : ∀ t : Ty, t.zcells.length = t.sz := by
      intro t
      induction t with
      | pair a b iha ihb => simp [Ty.zcells, Ty.sz, iha, ihb]
      | _ => rfl
    exact hz e
  have hle : n + ys.length ≤ 140737488355328 := Nat.le_trans (Nat.le_mul_of_pos_right _ hb1) hbytes
  cases A with
  | none =>
    obtain ⟨rfl, rfl⟩ := hsrc.nil rfl
    have hnews : news = [] := hsrc.rows
    subst hnews
    rw [hsrc.v]
    refine ⟨v, c.w, run_append_owned_none (w := c.w) 0 t ty te i e.sz hu hi1 v n olds hown, by simpa using hown, ⟨rfl, rfl, rfl, Nat.le_refl _, fun _ _ _ => rfl⟩, fun b hb => .inl hb⟩
  | some ad =>
    have hnl : news.length = ys.length * e.sz := hsrc.rows.len
    rw [hsrc.v]
    obtain ⟨v', w', hrun, ho, hg, _⟩ := run_append_own (P := P) c.w 0 t ty te i ei.zero e.sz ei.bytes hu hi1 hi4 (by rw [hi2, hsz]) hi3 hzs (by omega) v n olds hown ad ys.length cap news hnl (hsrc.cells ad rfl) (hsrc.rows.one)
      (by unfold maxLen; omega) hbytes (Nat.zero_le _)
    refine ⟨v', w', hrun, ho, hg, fun b hb => ?_⟩
    rcases hown.2 with ⟨rfl, rfl⟩ | ⟨g, cp, cur, rfl, _, hgg, k1, k2, k3, k4⟩
    · obtain ⟨v2, w2, hrun2, ho2, _⟩ := run_append_own (P := P) c.w c.w.heap.size t ty te i ei.zero e.sz ei.bytes hu hi1 hi4 (by rw [hi2, hsz]) hi3 hzs (by omega) (.slice none 0 0) 0 [] (World.ownsRow_nil ..) ad ys.length cap news hnl (hsrc.cells ad rfl) (hsrc.rows.one)
        (by unfold maxLen; omega) hbytes (Nat.le_refl _)
      rw [hrun] at hrun2
      injection hrun2 with e1 e2
      subst e1 e2
      exact .inr (ho2.lt b hb).1
    · by_cases hroom : n + ys.length ≤ cp
      · have hfit : n * i.size + news.length ≤ cur.size := by rw [hnl, k3, hi2, ← hsz, ← Nat.add_mul]; exact Nat.mul_le_mul_right _ hroom
        have hr := run_append_room (P := P) c.w t ty te i hu hi1 g n cp cur hgg ad ys.length cap news (by rw [hnl, hi2, hsz]) (hsrc.cells ad rfl) (hsrc.rows.one) hroom hfit
        rw [hrun] at hr
        injection hr with e1 e2
        subst e1
        exact .inl hb
      · have holds : ∀ j u, olds[j]? = some u → c.w.cell? ((⟨g, 0, none⟩ : Addr).add j) = some u := hown.cells (g := g) rfl
        have hr := run_append_grow (P := P) c.w t ty te i ei.zero hu hi1 hi4 ⟨g, 0, none⟩ n cp olds (by rw [hown.1, hi2, hsz]) holds ad ys.length cap news (by rw [hnl, hi2, hsz]) (hsrc.cells ad rfl) (by omega) (by omega) (growslice_fits (by omega) (by rw [hi3]; exact hbytes))
        rw [hrun] at hr
        injection hr with e1 e2
        subst e1
        simp [Value.ownBlock] at hb
        exact .inr (by omega)

/-- A new row, made in whatever way. -/
theorem fits_made (h : ROk E st a c) {w' : World} {it : Itm} {v : Value} {B : Nat → Prop} (hf : ¬ c.D st.next) (hg : c.w.grownBy w' none) (hB : ∀ b, B b → c.w.heap.size ≤ b ∧ b < w'.heap.size) (hi : IOk (c.new w' st.next v B) st.next it) :
    Fits c (c.new w' st.next v B) [] [] [] [it] st.next := by
  have old : ∀ b, b < c.w.heap.size → w'.heap[b]? = c.w.heap[b]? := fun b hb => hg.block b hb (by simp)
  have ne : ∀ p, c.D p → p ≠ st.next := fun p hp e => hf (e ▸ hp)
  refine ⟨fun p => ?_, ⟨fun p hp => .inl hp, fun p hp _ => by simp [Ctx.new, ne p hp], fun p hp _ b => by simp [Ctx.new, ne p hp], fun b hb => hb, fun b hb => old b (h.im b hb).1, fun p b hp _ hb => old b (h.lt p b hp hb).1, fun p hp => absurd hp (by simp)⟩,
    fun p it hp => absurd hp (by simp), fun i jt hj => ?_, fun p b hp => absurd hp (by simp), fun p b h1 h2 hb => ?_, fun p q b hp hq hne => ?_, fun p b hp hb => ?_, fun b hb => ?_, fun b p hb hp hF => ?_, ?_⟩
  · simp only [Ctx.new, List.length_singleton]
    constructor
    · rintro (h | h)
      · exact .inl h
      · exact .inr (by omega)
    · rintro (h | h)
      · exact .inl h
      · exact .inr (by omega)
  · cases i with
    | zero => simp at hj; subst hj; exact hi
    | succ i => simp at hj
  · simp only [List.length_singleton] at h2
    have : p = st.next := by omega
    subst this
    simp [Ctx.new] at hb
    exact (hB b hb).1
  · simp only [List.length_singleton, List.not_mem_nil, false_or] at hp hq
    omega
  · simp only [Ctx.new] at hp hb ⊢
    by_cases he : p = st.next
    · rw [if_pos he] at hb; exact (hB b hb).2
    · rw [if_neg he] at hb
      have := (h.lt p b (hp.resolve_right he) hb).1
      have := hg.size
      omega
  · simp only [Ctx.new] at hb ⊢
    exact ⟨Nat.lt_of_lt_of_le (h.im b hb).1 hg.size, .inl hb⟩
  · simp only [List.length_singleton, List.not_mem_nil, false_or] at hp
    have : p = st.next := by omega
    subst this
    simp [Ctx.new] at hF hb
    have := (h.im b hb).1
    have := (hB b hF).1
    omega
  · exact ⟨hg.os, hg.tape, hg.output, hg.size, fun b hb _ => old b hb⟩

/-- A place's list, moved. -/
def Ctx.moved (c : Ctx) (w' : World) (p : Nat) (v : Value) : Ctx := { w := w', D := c.D, ρ := fun q => if q = p then v else c.ρ q, F := fun q b => if q = p then v.ownBlock = some b else c.F q b, Im := c.Im }

theorem fits_moved (h : ROk E st a c) {p : Nat} {w' : World} {it : Itm} {v v' : Value} (hsl : ∃ A n cap, c.ρ p = .slice A n cap) (hD : c.D p) (hF : ∀ x, c.F p x ↔ v.ownBlock = some x) (hg : c.w.grownBy w' v.ownBlock) (hv : ∀ b, v'.ownBlock = some b → v.ownBlock = some b ∨ c.w.heap.size ≤ b) (hlt : ∀ b, v'.ownBlock = some b → b < w'.heap.size)
    (hi : IOk (c.moved w' p v') p it) : Fits c (c.moved w' p v') [p] [p] [(p, it)] [] st.next := by
  have old : ∀ b, b < c.w.heap.size → ¬ c.F p b → w'.heap[b]? = c.w.heap[b]? := fun b hb hn => hg.block b hb (fun e => hn ((hF b).2 e.symm))
  refine ⟨fun q => (by simp [Ctx.moved]; omega), ⟨fun q hq => hq, fun q hq hn => ?_, fun q hq hn b => ?_, fun b hb => hb, fun b hb' => old b (h.im b hb').1 ((h.im b hb').2 p hD), fun q b hq hne hqb => ?_, fun q hq => ⟨hq, fun _ => (List.mem_singleton.1 hq) ▸ hsl⟩⟩,
    fun q jt hq => ?_, fun i jt hj => (by simp at hj), fun q b hq _ hF' => ?_, fun q b h1 h2 => (by simp at h2; omega), fun q q' b hq hq' hne => ?_, fun q b hq hF' => ?_, fun b hb' => ?_, fun b q hb' hq hF' => ?_, ?_⟩
  · have : q ≠ p := by simpa using hn
    simp [Ctx.moved, this]
  · have : q ≠ p := by simpa using hn
    simp [Ctx.moved, this]
  · have : q ≠ p := by simpa using hne
    exact old b (h.lt q b hq hqb).1 (h.dj q p b hq hD this hqb)
  · simp at hq; obtain ⟨rfl, rfl⟩ := hq; exact hi
  · simp at hq
    subst hq
    simp [Ctx.moved] at hF'
    exact (hv b hF').imp (hF b).2 id
  · simp at hq hq'; omega
  · show b < w'.heap.size
    simp only [Ctx.moved] at hF'
    by_cases he : q = p
    · rw [if_pos he] at hF'; exact hlt b hF'
    · rw [if_neg he] at hF'
      exact Nat.lt_of_lt_of_le (h.lt q b hq hF').1 hg.size
  · exact ⟨Nat.lt_of_lt_of_le (h.im b hb').1 hg.size, .inl hb'⟩
  · simp at hq
    rcases hq with rfl | hq
    · simp [Ctx.moved] at hF'
      rcases hv b hF' with h1 | h1
      · exact (h.im b hb').2 q hD ((hF b).2 h1)
      · have := (h.im b hb').1; omega
    · omega
  · exact ⟨hg.os, hg.tape, hg.output, hg.size, fun b hlt hn => old b hlt (fun hF' => hn ⟨p, by simp, hD, hF'⟩)⟩

/-- The blocks of a place, other ones. -/
def Ctx.regr (c : Ctx) (w' : World) (p : Nat) (B : Nat → Prop) : Ctx := { w := w', D := c.D, ρ := c.ρ, F := fun q b => if q = p then B b else c.F q b, Im := c.Im }
theorem fits_regr (h : ROk E st a c) {p : Nat} {w' : World} {it : Itm} {B : Nat → Prop} (hD : c.D p) (ho : w'.os = c.w.os) (ht : w'.tape = c.w.tape) (hou : w'.output = c.w.output) (hs : c.w.heap.size ≤ w'.heap.size)
    (old : ∀ b, b < c.w.heap.size → ¬ c.F p b → w'.heap[b]? = c.w.heap[b]?) (hB : ∀ b, B b → c.F p b ∨ c.w.heap.size ≤ b) (hlt : ∀ b, B b → b < w'.heap.size)
    (hi : IOk (c.regr w' p B) p it) : Fits c (c.regr w' p B) [p] [] [(p, it)] [] st.next := by
  refine ⟨fun q => (by simp [Ctx.regr]; omega), ⟨fun q hq => hq, fun q hq hn => rfl, fun q hq hn b => ?_, fun b hb => hb, fun b hb' => old b (h.im b hb').1 ((h.im b hb').2 p hD), fun q b hq hne hqb => ?_, fun q hq => absurd hq (by simp)⟩,
    fun q jt hq => ?_, fun i jt hj => (by simp at hj), fun q b hq _ hF' => ?_, fun q b h1 h2 => (by simp at h2; omega), fun q q' b hq hq' hne => ?_, fun q b hq hF' => ?_, fun b hb' => ?_, fun b q hb' hq hF' => ?_, ?_⟩
  · have : q ≠ p := by simpa using hn
    simp [Ctx.regr, this]
  · have : q ≠ p := by simpa using hne
    exact old b (h.lt q b hq hqb).1 (h.dj q p b hq hD this hqb)
  · simp at hq; obtain ⟨rfl, rfl⟩ := hq; exact hi
  · simp at hq
    subst hq
    simp [Ctx.regr] at hF'
    exact hB b hF'
  · simp at hq hq'; omega
  · show b < w'.heap.size
    simp only [Ctx.regr] at hF'
    by_cases he : q = p
    · rw [if_pos he] at hF'; exact hlt b hF'
    · rw [if_neg he] at hF'
      exact Nat.lt_of_lt_of_le (h.lt q b hq hF').1 hs
  · exact ⟨Nat.lt_of_lt_of_le (h.im b hb').1 hs, .inl hb'⟩
  · simp at hq
    rcases hq with rfl | hq
    · simp [Ctx.regr] at hF'
      rcases hB b hF' with h1 | h1
      · exact (h.im b hb').2 q hD h1
      · have := (h.im b hb').1; omega
    · omega
  · exact ⟨ho, ht, hou, hs, fun b hlt hn => old b hlt (fun hF' => hn ⟨p, by simp, hD, hF'⟩)⟩

theorem Lh.val_pos {g : Lh} (h : 0 < g.b) : g.val = .slice (some ⟨g.b - 1, 0, none⟩) g.n g.c := by
  unfold Lh.val
  split
  · omega
  · rename_i b hb; rw [hb]; rfl
theorem Lh.val_zero {g : Lh} (h : g.ok) (h0 : g.b = 0) : g.val = .slice none 0 0 ∧ g.n = 0 ∧ g.c = 0 := by
  obtain ⟨g1, g2, g3⟩ := h
  have hc := g3 h0
  have hn : g.n = 0 := by omega
  unfold Lh.val
  rw [h0, hc, hn]
  exact ⟨rfl, rfl, rfl⟩
/-- Nothing is added. -/
theorem run_append_empty {w : World} {t ty te : TypeId} {i : TypeInfo} (hu : P.underlying t = some (.slice te)) (hi : P.info? te = some i) {g : Lh} (hg : g.ok) (A : Option Addr) (cap : Nat) (hA : A = none → cap = 0) :
    (Builtin.append_ #[t, t] ty #[g.val, .slice A 0 cap]).run P w = .ok g.val w := by
  rcases Nat.eq_zero_or_pos g.b with h0 | h0
  · rw [(Lh.val_zero hg h0).1]
    cases A <;> simp [Builtin.append_, run_underlying hu, sizeOf, typeInfo, hi, Builtin.lenOf, Builtin.firstCells, loadCells, loadCellsFrom]
  · rw [Lh.val_pos h0]
    cases A <;> simp [Builtin.append_, run_underlying hu, sizeOf, typeInfo, hi, Builtin.lenOf, Builtin.firstCells, loadCells, loadCellsFrom, hg.1, storeCells]
/-- append onto a list that a pool holds. -/
theorem append_pool {t ty te : TypeId} {ei : TI} (Te : TIok P te ei) {e : Ty} (hty : ei.ty = some e) (hu : P.underlying t = some (.slice te)) (hs1 : 1 ≤ ei.size) (hb1 : 1 ≤ ei.bytes) {p q : Nat} {PL : List (Nat × Nat × List e.den)}
    (h : IOk c p (.apool q te e PL)) (hIm : ∀ b, c.Im b → b < c.w.heap.size ∧ ¬ c.F p b) {g : Lh} (hg : g.ok) (hL : LhOk PL g)
    {ys : List e.den} {xv : Value} {A : Option Addr} {cap : Nat} {news : List Value} (hsrc : SrcAt c e ys xv A cap news) (hbytes : (g.n + ys.length) * ei.bytes ≤ 140737488355328) :
    ∃ (w' : World) (g' : Lh) (PL' : List (Nat × Nat × List e.den)), (Builtin.append_ #[t, t] ty #[g.val, xv]).run P c.w = .ok g'.val w' ∧ g'.ok ∧ AppO PL g ys g' PL' ∧ IOk (c.regr w' p fun b => ∃ x ∈ PL', b + 1 = x.1) p (.apool q te e PL') ∧
      w'.os = c.w.os ∧ w'.tape = c.w.tape ∧ w'.output = c.w.output ∧ c.w.heap.size ≤ w'.heap.size ∧ (∀ b, b < c.w.heap.size → ¬ c.F p b → w'.heap[b]? = c.w.heap[b]?) ∧
      (∀ b, (∃ x ∈ PL', b + 1 = x.1) → c.F p b ∨ c.w.heap.size ≤ b) ∧ ∀ b, (∃ x ∈ PL', b + 1 = x.1) → b < w'.heap.size := by
  obtain ⟨i, hi1, hi2, hi3, hi4⟩ := Te.info
  obtain ⟨hsz, _, hzc⟩ := Te.ty e hty
  have hzs : ei.zero.cells.size = e.sz := by
    have := congrArg List.length hzc
    rw [Array.length_toList] at this
    rw [this]
    have hz : ∀ t : Ty, t.zcells.length = t.sz := by
      intro t
      induction t with
      | pair a b iha ihb => simp [Ty.zcells, Ty.sz, iha, ihb]
      | _ => rfl
    exact hz e
  have hle : g.n + ys.length ≤ 140737488355328 := Nat.le_trans (Nat.le_mul_of_pos_right _ hb1) hbytes
  have hm63 : g.n + ys.length ≤ maxLen := by unfold maxLen; omega
  have hF := h.2.2.2.2
  have hlt0 : ∀ b, (∃ x ∈ PL, b + 1 = x.1) → b < c.w.heap.size := fun b ⟨x, hx, e'⟩ => by
    obtain ⟨_, _, cur, k, _⟩ := h.2.2.2.1 x hx
    have := (Array.getElem?_eq_some_iff.1 k).1
    omega
  have hFiff : ∀ b, (c.regr c.w p fun b => ∃ x ∈ PL, b + 1 = x.1).F p b ↔ c.F p b := fun b => by simp only [Ctx.regr, if_pos]; exact (hF b).symm
  rcases Nat.eq_zero_or_pos ys.length with hy0 | hy0
  · have hy : ys = [] := List.eq_nil_of_length_eq_zero hy0
    subst hy
    rw [hsrc.v]
    refine ⟨c.w, g, PL, run_append_empty hu hi1 hg A cap (fun hA => (hsrc.nil hA).2), hg, .inl ⟨rfl, rfl, rfl⟩, ?_, rfl, rfl, rfl, Nat.le_refl _, fun _ _ _ => rfl, fun b hb => .inl ((hF b).2 hb), hlt0⟩
    exact IOk.samePool ⟨q, by simp [Itm.poolIs]⟩ h rfl (fun _ h => h) (fun _ _ => rfl) hFiff (fun _ _ => rfl)
  · have hyn : ys ≠ [] := fun e' => by rw [e'] at hy0; simp at hy0
    cases A with
    | none => exact absurd (hsrc.nil rfl).1 hyn
    | some ad =>
      have hnl : news.length = ys.length * e.sz := hsrc.rows.len
      rw [hsrc.v]
      by_cases hroom : g.n + ys.length ≤ g.c
      · have h0 : 0 < g.b := by
          rcases Nat.eq_zero_or_pos g.b with h0 | h0
          · have := hg.2.2 h0; omega
          · exact h0
        obtain ⟨xs, hget, hnx⟩ := hL.resolve_left (by omega)
        obtain ⟨cur, j1, j2, j3, j4, j5, j6, j7, j8, j9⟩ := hd_owns h hget hnx
        have hp2 : pget2 PL g.b = xs := by unfold pget2; rw [hget]; rfl
        have hfit : g.n * e.sz + news.length ≤ cur.size := by rw [hnl, j6, ← Nat.add_mul]; exact Nat.mul_le_mul_right _ hroom
        have hr := run_append_room (P := P) (ty := ty) c.w t te i hu hi1 (g.b - 1) g.n g.c cur j3 ad ys.length cap news (by rw [hnl, hi2, hsz]) (hsrc.cells ad rfl) (hsrc.rows.one) hroom (by rw [hi2, ← hsz]; exact hfit)
        rw [hi2, ← hsz] at hr
        have hr' : (Builtin.append_ #[t, t] ty #[g.val, .slice (some ad) ys.length cap]).run P c.w = .ok (.slice (some ⟨g.b - 1, 0, none⟩) (g.n + ys.length) g.c) (c.w.setRow (g.b - 1) (splice cur.toList (g.n * e.sz) news).toArray) := by rw [Lh.val_pos h0]; exact hr
        have hother : ∀ b, b ≠ g.b - 1 → (c.w.setRow (g.b - 1) (splice cur.toList (g.n * e.sz) news).toArray).heap[b]? = c.w.heap[b]? := fun b hn => setRow_else _ _ _ _ hn
        have himw : ∀ b, c.Im b → (c.w.setRow (g.b - 1) (splice cur.toList (g.n * e.sz) news).toArray).heap[b]? = c.w.heap[b]? := fun b hb => hother b (fun e' => (hIm b hb).2 (e' ▸ j2))
        have hgv : (⟨g.b, g.n + ys.length, g.c⟩ : Lh).val = .slice (some ⟨g.b - 1, 0, none⟩) (g.n + ys.length) g.c := Lh.val_pos (g := ⟨g.b, g.n + ys.length, g.c⟩) h0
        have hp2s : pset2 PL g.b (xs.take g.n ++ ys ++ xs.drop (g.n + ys.length)) = pset PL g.b (g.c, xs.take g.n ++ ys ++ xs.drop (g.n + ys.length)) := by unfold pset2; rw [hget]; rfl
        have hkeys : ∀ b, (∃ x ∈ pset2 PL g.b (xs.take g.n ++ ys ++ xs.drop (g.n + ys.length)), b + 1 = x.1) ↔ ∃ x ∈ PL, b + 1 = x.1 := fun b => by
          have hk : ∀ (R : List (Nat × Nat × List e.den)), (∃ x ∈ R, b + 1 = x.1) ↔ b + 1 ∈ R.map (·.1) := fun R => by
            rw [List.mem_map]
            exact ⟨fun ⟨x, hx, e'⟩ => ⟨x, hx, e'.symm⟩, fun ⟨x, hx, e'⟩ => ⟨x, hx, e'.symm⟩⟩
          rw [hk, hk, hp2s, pset_keys]
        refine ⟨c.w.setRow (g.b - 1) (splice cur.toList (g.n * e.sz) news).toArray, ⟨g.b, g.n + ys.length, g.c⟩, pset2 PL g.b (xs.take g.n ++ ys ++ xs.drop (g.n + ys.length)), by rw [hgv]; exact hr', ⟨hroom, hg.2.1, fun hz => by dsimp only at hz; omega⟩, .inr (.inl ⟨hyn, hroom, rfl, by rw [hp2]⟩), ?_, rfl, rfl, rfl, Nat.le_of_eq (size_setRow _ _ _).symm, fun b _ hn => hother b (fun e' => hn (e' ▸ j2)), fun b hb => .inl ((hF b).2 ((hkeys b).1 hb)), fun b hb => by rw [size_setRow]; exact hlt0 b ((hkeys b).1 hb)⟩
        have hxl : (xs.take g.n).length = g.n := by rw [List.length_take]; omega
        have hrows := RowsK.append (RowsK.append j8 hsrc.rows) (rows_mid (g.n + ys.length) (xs.length - (g.n + ys.length)) j7)
        refine apool_set h hget rfl (fun _ h => h) himw (fun b => ?_) (fun x hx hne => hother x hne) ?_ (cur := (splice cur.toList (g.n * e.sz) news).toArray) (setRow_same c.w (g.b - 1) _ _ te j3) ?_ ?_
        · simp only [Ctx.regr, if_pos]; rw [hkeys]; exact (hF b).symm
        · rw [List.length_append, List.length_append, hxl, List.length_drop]; omega
        · rw [List.size_toArray, splice_length _ _ _ (by rw [Array.length_toList]; exact hfit), Array.length_toList, j6]
        · refine RowsK.mono (fun _ h => h) himw ?_
          rw [List.toList_toArray]
          have hd0 : (xs.drop (g.n + ys.length)).take (xs.length - (g.n + ys.length)) = xs.drop (g.n + ys.length) := List.take_of_length_le (by rw [List.length_drop]; omega)
          rw [hd0] at hrows
          have hcells : (splice cur.toList (g.n * e.sz) news).take ((xs.take g.n ++ ys ++ xs.drop (g.n + ys.length)).length * e.sz) = cur.toList.take (g.n * e.sz) ++ news ++ ((cur.toList.take (xs.length * e.sz)).drop ((g.n + ys.length) * e.sz)).take ((xs.length - (g.n + ys.length)) * e.sz) := by
            have hlen : (xs.take g.n ++ ys ++ xs.drop (g.n + ys.length)).length = g.n + ys.length + (xs.length - (g.n + ys.length)) := by rw [List.length_append, List.length_append, hxl, List.length_drop]
            rw [hlen]
            have hcl : (cur.toList.take (g.n * e.sz)).length = g.n * e.sz := j9.1
            have hA : (cur.toList.take (g.n * e.sz) ++ news).length = (g.n + ys.length) * e.sz := by rw [List.length_append, hcl, hnl, Nat.add_mul]
            unfold splice
            rw [hnl, ← Nat.add_mul, Nat.add_mul (g.n + ys.length), ← hA, List.take_length_add_append, hA]
            congr 1
            rw [List.drop_take, List.take_take]
            congr 1
            rw [← Nat.sub_mul]
            exact (Nat.min_self _).symm
          rw [hcells]
          exact hrows
      · have hgc := grownCap_ge c.w (g.n + ys.length) g.c te
        have hcm := grownCap_le_maxLen c.w (g.n + ys.length) g.c te hm63
        have grow : ∀ (olds : List Value), olds.length = g.n * e.sz → RowsK c.w c.Im e ((pget2 PL g.b).take g.n) olds → ((pget2 PL g.b).take g.n).length = g.n →
            (Builtin.append_ #[t, t] ty #[g.val, .slice (some ad) ys.length cap]).run P c.w = .ok (.slice (some ⟨c.w.heap.size, 0, none⟩) (g.n + ys.length) (grownCap c.w (g.n + ys.length) g.c te))
              (c.w.drew.alloc (.cells (olds.toArray ++ news.toArray ++ Builtin.zeroCells ei.zero.cells (grownCap c.w (g.n + ys.length) g.c te - (g.n + ys.length))) te)) →
            ∃ (w' : World) (g' : Lh) (PL' : List (Nat × Nat × List e.den)), (Builtin.append_ #[t, t] ty #[g.val, .slice (some ad) ys.length cap]).run P c.w = .ok g'.val w' ∧ g'.ok ∧ AppO PL g ys g' PL' ∧ IOk (c.regr w' p fun b => ∃ x ∈ PL', b + 1 = x.1) p (.apool q te e PL') ∧
              w'.os = c.w.os ∧ w'.tape = c.w.tape ∧ w'.output = c.w.output ∧ c.w.heap.size ≤ w'.heap.size ∧ (∀ b, b < c.w.heap.size → ¬ c.F p b → w'.heap[b]? = c.w.heap[b]?) ∧
              (∀ b, (∃ x ∈ PL', b + 1 = x.1) → c.F p b ∨ c.w.heap.size ≤ b) ∧ ∀ b, (∃ x ∈ PL', b + 1 = x.1) → b < w'.heap.size := by
          intro olds hol hor hlen hr
          generalize hcp : grownCap c.w (g.n + ys.length) g.c te = cp at hr hgc hcm
          generalize hob : (Obj.cells (olds.toArray ++ news.toArray ++ Builtin.zeroCells ei.zero.cells (cp - (g.n + ys.length))) te) = ob at hr
          have hold : ∀ b, b < c.w.heap.size → (c.w.drew.alloc ob).heap[b]? = c.w.heap[b]? := fun b hb => heap_alloc_old c.w.drew ob hb
          have hnone : pget PL (c.w.heap.size + 1) = none := pget_none.2 fun hm => by
            obtain ⟨x, hx, e'⟩ := List.mem_map.1 hm
            have := hlt0 c.w.heap.size ⟨x, hx, e'.symm⟩
            omega
          have hsz1 : (c.w.drew.alloc ob).heap.size = c.w.heap.size + 1 := by simp
          refine ⟨c.w.drew.alloc ob, ⟨c.w.heap.size + 1, g.n + ys.length, cp⟩, PL ++ [(c.w.heap.size + 1, cp, (pget2 PL g.b).take g.n ++ ys)], by rw [Lh.val_pos (g := ⟨c.w.heap.size + 1, g.n + ys.length, cp⟩) (Nat.succ_pos _)]; exact hr, ⟨hgc, hcm, fun hz => by dsimp only at hz; omega⟩, .inr (.inr ⟨hyn, by omega, Nat.succ_pos _, hnone, rfl, hgc, rfl⟩), ⟨h.1, h.2.1, h.2.2.1.add (Nat.succ_pos _) hnone, fun x hx => ?_, fun b => by simp only [Ctx.regr, if_pos]⟩, rfl, rfl, rfl, by rw [hsz1]; omega, fun b hb _ => hold b hb, fun b ⟨x, hx, e'⟩ => ?_, fun b ⟨x, hx, e'⟩ => ?_⟩
          · rcases List.mem_append.1 hx with hx | hx
            · obtain ⟨k1, k2, cur, k3, k4, k5⟩ := h.2.2.2.1 x hx
              have hpos := h.2.2.1.2 x hx
              exact ⟨k1, k2, cur, (hold _ (hlt0 _ ⟨x, hx, by omega⟩)).trans k3, k4, k5.mono (fun _ h => h) fun b hb => hold b (hIm b hb).1⟩
            · rw [List.mem_singleton.1 hx]
              have hl2 : ((pget2 PL g.b).take g.n ++ ys).length = g.n + ys.length := by rw [List.length_append, hlen]
              dsimp only
              refine ⟨by rw [hl2]; exact hgc, hcm, olds.toArray ++ news.toArray ++ Builtin.zeroCells ei.zero.cells (cp - (g.n + ys.length)), ?_, ?_, ?_⟩
              · rw [Nat.add_sub_cancel, ← hob]
                exact heap_alloc_new c.w.drew _
              · simp only [Array.size_append, List.size_toArray, size_zeroCells, hzs, hol, hnl, ← Nat.add_mul]
                congr 1
                omega
              · rw [hl2]
                refine RowsK.mono (fun _ h => h) (fun b hb => hold b (hIm b hb).1) ?_
                have : (olds.toArray ++ news.toArray ++ Builtin.zeroCells ei.zero.cells (cp - (g.n + ys.length))).toList.take ((g.n + ys.length) * e.sz) = olds ++ news := by
                  have hl3 : (olds ++ news).length = (g.n + ys.length) * e.sz := by rw [List.length_append, hol, hnl, Nat.add_mul]
                  simp only [Array.toList_append, List.append_assoc]
                  rw [← List.append_assoc, ← hl3]
                  exact List.take_left
                rw [this]
                exact RowsK.append hor hsrc.rows
          · rcases List.mem_append.1 hx with hx | hx
            · exact .inl ((hF b).2 ⟨x, hx, e'⟩)
            · rw [List.mem_singleton.1 hx] at e'; dsimp only at e'; exact .inr (by omega)
          · rw [hsz1]
            rcases List.mem_append.1 hx with hx | hx
            · have := hlt0 b ⟨x, hx, e'⟩; omega
            · rw [List.mem_singleton.1 hx] at e'; dsimp only at e'; omega
        rcases Nat.eq_zero_or_pos g.b with h0 | h0
        · obtain ⟨hv, hn0, hc0⟩ := Lh.val_zero hg h0
          refine grow [] (by rw [hn0]; simp) (by rw [hn0]; simp [RowsK]) (by rw [hn0]; simp) ?_
          have hr := run_append_nil (P := P) c.w t ty te i ei.zero hu hi1 hi4 ad ys.length cap news (by rw [hnl, hi2, hsz]) (hsrc.cells ad rfl) hy0 (by omega) (by have hb := hbytes; rw [hn0, Nat.zero_add, ← hi3] at hb; omega)
          rw [hv, hn0, hc0, Nat.zero_add]
          simpa using hr
        · obtain ⟨xs, hget, hnx⟩ := hL.resolve_left (by omega)
          obtain ⟨cur, j1, j2, j3, j4, j5, j6, j7, j8, j9⟩ := hd_owns h hget hnx
          have hp2 : pget2 PL g.b = xs := by unfold pget2; rw [hget]; rfl
          have holds : ∀ j u, (cur.toList.take (g.n * e.sz))[j]? = some u → c.w.cell? ((⟨g.b - 1, 0, none⟩ : Addr).add j) = some u := j9.cells (g := g.b - 1) rfl
          refine grow (cur.toList.take (g.n * e.sz)) j9.1 (by rw [hp2]; exact j8) (by rw [hp2, List.length_take]; omega) ?_
          rw [Lh.val_pos h0]
          exact run_append_grow (P := P) c.w t ty te i ei.zero hu hi1 hi4 ⟨g.b - 1, 0, none⟩ g.n g.c (cur.toList.take (g.n * e.sz)) (by rw [j9.1, hi2, hsz]) holds ad ys.length cap news (by rw [hnl, hi2, hsz]) (hsrc.cells ad rfl) (by omega) (by omega) (growslice_fits (by omega) (by rw [hi3]; exact hbytes))

theorem append_loud (T : TabOk P tt eqt) (h : ROk E st a c) (hlk : LockOk st) {ts : Array TypeId} {args : Array Operand} (hop : o.op = .call ⟨.builtin .append, args, ts⟩) {r : Res} (hr : opA tt eqt sp st o = some r) (hpre : ∀ q ∈ r.pre, q) (hK : goAlts E.nt st hold r.rel o.dst K r.alts) : o.wp P a c.w (Post E st hold c o.dst K) Q := by
  simp only [opA, hop, builtA] at hr
  split at hr
  · rename_i t t' s x hts hargs
    cases htt : Nat.beq t t' with
    | false => simp [htt] at hr
    | true =>
      simp only [htt, cond_true] at hr
      have htt' := Nat.eq_of_beq_eq_true htt
      subst htt'
      obtain ⟨ti, hti, hr⟩ := Option.bind_eq_some_iff.1 hr
      have hm := eval_list h args.toList
      have hl : (args.toList.map a.eval) = (args.map a.eval).toList := by simp
      rw [hl, hargs] at hm
      obtain ⟨sv, xv, hvs, hs, hx⟩ := two_args hm
      have hts' : ts = #[t, t] := Array.toList_inj.1 hts
      subst hts'
      split at hr
      · rename_i te hkn
        have hu := (T.ti t ti hti).slice hkn
        obtain ⟨ei, hei, hr⟩ := Option.bind_eq_some_iff.1 hr
        have Te := T.ti te ei hei
        unfold appendA at hr
        split at hr
        · cases hr
        · rename_i e hty
          cases hsb : Nat.ble 1 ei.size && Nat.ble 1 ei.bytes with
          | false => simp [hsb] at hr
          | true =>
            simp only [hsb, Bool.not_true, cond_false] at hr
            simp only [Bool.and_eq_true] at hsb
            have hs1 := Nat.le_of_ble_eq_true hsb.1
            have hb1 := Nat.le_of_ble_eq_true hsb.2
            split at hr
            · cases hr
            · rename_i ys hd
              have src := fun hpx => src_at h hd hpx hx
              have runs : ∀ {v' w'}, (Builtin.append_ #[t, t] o.type #[sv, xv]).run P c.w = .ok v' w' → (execOp a.eval o).run P c.w = .ok (.value v') w' := fun {v' w'} hrun => by
                simp only [execOp, hop, resolve, invoke, builtin, Sem.run_bind, Sem.run_pure, Result.andThen_ok, hvs, hrun]
              cases s with
              | nsl =>
                simp only at hr
                have hr := Option.some.inj hr
                subst hr
                obtain ⟨A, cap, news, hsrc⟩ := src (fun q hq => hpre q (List.mem_append_left _ hq))
                simp only [CV] at hs
                subst hs
                obtain ⟨v', w', hrun, ho, hg, hb⟩ := append_run (ty := o.type) Te hty hu hs1 hb1 (World.ownsRow_nil c.w 0 te e.sz) hsrc (by rw [Nat.zero_add]; exact hpre _ (by simp))
                rw [Nat.zero_add, List.nil_append] at ho
                have hfr := fresh_of h hK
                unfold Oper.wp
                rw [runs hrun]
                have hB : ∀ b, v'.ownBlock = some b → c.w.heap.size ≤ b ∧ b < w'.heap.size := fun b hb' => ⟨(hb b hb').resolve_left (by simp [Value.ownBlock]), (ho.lt b hb').2⟩
                have hold_ : ∀ b, c.Im b → w'.heap[b]? = c.w.heap[b]? := fun b hb' => hg.block b (h.im b hb').1 (by simp [Value.ownBlock])
                refine post_of h hlk hK fun hl => ⟨c.new w' st.next v' (fun b => v'.ownBlock = some b), rfl, fits_made h hfr hg hB ?_, ?_⟩
                · refine ⟨news, ?_, ?_, fun x => by simp [Ctx.new]⟩
                  · show w'.ownsRow 0 te e.sz ((c.new w' st.next v' _).ρ st.next) ys.length news
                    rw [(Ctx.new_at c w' st.next v' _).1]; exact ho
                  · exact RowsK.mono (fun _ h => h) hold_ hsrc.rows
                · simp only [CV]
                  refine ⟨by simp [Ctx.new], by simp [Ctx.new], ?_⟩
                  rcases ho.2 with ⟨rfl, _⟩ | ⟨g, cp, cur, rfl, _⟩
                  · exact ⟨none, 0, 0, rfl⟩
                  · exact ⟨_, _, _, rfl⟩
              | sl p =>
                simp only at hr
                split at hr
                · rename_i t' e' xs hat
                  cases hte : Nat.beq t' te with
                  | false => simp [hte] at hr
                  | true =>
                    simp only [hte, cond_true] at hr
                    have hte' := Nat.eq_of_beq_eq_true hte
                    subst hte'
                    split at hr
                    · rename_i hee
                      subst hee
                      have hr := Option.some.inj hr
                      subst hr
                      obtain ⟨A, cap, news, hsrc⟩ := src (fun q hq => hpre q (List.mem_append_left _ hq))
                      simp only [CV] at hs
                      obtain ⟨hD, hxe, hsl⟩ := hs
                      rw [hxe] at hsl
                      subst hxe
                      have hi := h.it p hD
                      rw [hat] at hi
                      obtain ⟨cs, k1, k2, k3⟩ := hi
                      obtain ⟨v', w', hrun, ho, hg, hb⟩ := append_run (ty := o.type) Te hty hu hs1 hb1 k1 hsrc (hpre _ (by simp))
                      unfold Oper.wp
                      rw [runs hrun]
                      have hold_ : ∀ b, c.Im b → w'.heap[b]? = c.w.heap[b]? := fun b hb' => hg.block b (h.im b hb').1 (fun e => (h.im b hb').2 p hD ((k3 b).2 e.symm))
                      refine post_of h hlk hK fun hl => ⟨c.moved w' p v', rfl, fits_moved h hsl hD k3 hg hb (fun b hb' => (ho.lt b hb').2) ?_, ?_⟩
                      · refine ⟨cs ++ news, ?_, ?_, fun x => by simp [Ctx.moved]⟩
                        · show w'.ownsRow 0 t' e'.sz ((c.moved w' p v').ρ p) (xs ++ ys).length (cs ++ news)
                          rw [List.length_append, show (c.moved w' p v').ρ p = v' from by simp [Ctx.moved]]; exact ho
                        · exact RowsK.append (RowsK.mono (fun _ h => h) hold_ k2) (RowsK.mono (fun _ h => h) hold_ hsrc.rows)
                      · simp only [CV]
                        refine ⟨hD, by simp [Ctx.moved], ?_⟩
                        rcases ho.2 with ⟨rfl, _⟩ | ⟨g, cp, cur, rfl, _⟩
                        · exact ⟨none, 0, 0, rfl⟩
                        · exact ⟨_, _, _, rfl⟩
                    · cases hr
                · cases hr
              | hd q e'' g =>
                simp only at hr
                split at hr
                · rename_i p hp
                  split at hr
                  · rename_i r' t' e' PL hat
                    cases hte : Nat.beq t' te && Nat.beq r' q with
                    | false => simp [hte] at hr
                    | true =>
                      simp only [hte, cond_true] at hr
                      simp only [Bool.and_eq_true] at hte
                      have hte' := Nat.eq_of_beq_eq_true hte.1
                      have hr3 := hr
                      subst hte'
                      split at hr3
                      · rename_i hee
                        subst hee
                        have hr3 := Option.some.inj hr3
                        subst hr3
                        obtain ⟨A, cap, news, hsrc⟩ := src (fun q hq => hpre q (List.mem_append_left _ hq))
                        simp only [CV] at hs
                        obtain ⟨hgo, rfl⟩ := hs
                        have hD : c.D p := (h.Dk p).2 (poolAt_key hp)
                        have hi := h.it p hD
                        rw [hat] at hi
                        obtain ⟨w', g', PL', hrun, k1, k2, k3, k4, k5, k6, k7, k8, k9, k10⟩ := append_pool (ty := o.type) Te hty hu hs1 hb1 hi (fun b hb => ⟨(h.im b hb).1, (h.im b hb).2 p hD⟩) hgo (hpre _ (by simp)) hsrc (hpre _ (by simp))
                        unfold Oper.wp
                        rw [runs hrun]
                        have hK' := hK (g', PL') ⟨k2⟩
                        exact post_of h hlk hK' fun hl => ⟨c.regr w' p _, rfl, fits_regr h hD k4 k5 k6 k7 k8 k9 k10 k3, by simp only [CV]; exact ⟨k1, trivial⟩⟩
                      · cases hr3
                  · cases hr
                · cases hr
              | _ => simp at hr
      · cases hr
  · cases hr

theorem fill_rows {e : Ty} : ∀ (n : Nat) (ps : List (Nat × AV)) (ps' : List (Nat × Value)) (xs : List e.den) (done rest : List Value), listOf e n ps = some xs → ps.map (·.1) = ps'.map (·.1) → CVL c (ps.map (·.2)) (ps'.map (·.2)) →
    done.length = n * e.sz → rest.length = ps.length * e.sz → ∃ cs, Instr.fill (fun i => some (i * e.sz, e.sz)) (done ++ rest).toArray ps' = some (done ++ cs).toArray ∧ RowsK c.w c.Im e xs cs ∧ xs.length = ps.length
  | n, [], [], xs, done, rest, hl, _, _, hd, hr => by
    simp [listOf] at hl
    subst hl
    have : rest = [] := List.eq_nil_of_length_eq_zero (by simpa using hr)
    subst this
    exact ⟨[], rfl, rfl, rfl⟩
  | n, (i, v) :: ps, (j, cv) :: ps', xs, done, rest, hl, hk, hv, hd, hr => by
    simp only [List.map_cons, List.cons.injEq] at hk
    obtain ⟨hij, hk⟩ := hk
    subst hij
    simp only [listOf] at hl
    cases hin : Nat.beq i n with
    | false => simp [hin] at hl
    | true =>
      have hin' := Nat.eq_of_beq_eq_true hin
      subst hin'
      simp only [hin, cond_true] at hl
      split at hl
      · rename_i x ys hx hys
        simp at hl
        subst hl
        have hV := Ty.V_cells (Ty.ofAV_cv hx hv.1)
        have hcl := Ty.K_len _ _ _ hV
        simp only [List.length_cons, Nat.add_mul, Nat.one_mul] at hr
        have hfold := fill_fold (i * e.sz) cv.cells.toList 0 (done ++ rest).toArray (by simp at hcl ⊢; omega)
        simp only [Nat.add_zero] at hfold
        have harr : cv.cells.zipIdx.foldl (fun cs (x : Value × Nat) => cs.setIfInBounds (i * e.sz + x.2) x.1) (done ++ rest).toArray = ((done ++ cv.cells.toList) ++ rest.drop e.sz).toArray := by
          rw [← Array.foldl_toList, Array.toList_zipIdx]
          apply Array.toList_inj.1
          rw [hfold, hcl]
          simp only [List.toList_toArray]
          rw [← hd, List.take_left', List.drop_length_add_append]
          rfl
        obtain ⟨cs, h1, h2, h3⟩ := fill_rows (i + 1) ps ps' ys (done ++ cv.cells.toList) (rest.drop e.sz) hys hk hv.2 (by rw [List.length_append, hcl, hd, Nat.add_mul, Nat.one_mul]) (by rw [List.length_drop]; omega)
        refine ⟨cv.cells.toList ++ cs, ?_, ⟨_, _, rfl, hV, h2⟩, by simp [h3]⟩
        simp only [Instr.fill]
        rw [if_neg (by simp at hcl ⊢; omega)]
        rw [show (cv.cells.zipIdx.foldl (fun cs (x : Value × Nat) => match x with | (c, j) => cs.setIfInBounds (i * e.sz + j) c) (done ++ rest).toArray) = _ from harr]
        rw [h1, List.append_assoc]
      · cases hl
  | _, [], _ :: _, _, _, _, _, hk, _, _, _ => by simp at hk
  | _, _ :: _, [], _, _, _, _, hk, _, _, _ => by simp at hk

theorem listOf_len {e : Ty} : ∀ (n : Nat) (ps : List (Nat × AV)) (xs : List e.den), listOf e n ps = some xs → xs.length = ps.length
  | n, [], xs, h => by simp [listOf] at h; subst h; rfl
  | n, (i, v) :: ps, xs, h => by
    simp only [listOf] at h
    cases hin : Nat.beq i n with
    | false => simp [hin] at h
    | true =>
      simp only [hin, cond_true] at h
      split at h
      · rename_i x ys hx hys
        simp at h; subst h
        simp [listOf_len (n + 1) ps ys hys]
      · cases h

theorem buildSlice_loud (T : TabOk P tt eqt) (h : ROk E st a c) (hlk : LockOk st) {t : TypeId} {n : Nat} {ps : Array (Nat × Operand)} (hop : o.op = .buildSlice t n ps) {r : Res} (hr : opA tt eqt sp st o = some r) (hK : goAlts E.nt st hold r.rel o.dst K r.alts) : o.wp P a c.w (Post E st hold c o.dst K) Q := by
  simp only [opA, hop] at hr
  obtain ⟨ti, hti, hr⟩ := Option.bind_eq_some_iff.1 hr
  split at hr
  · rename_i te hkn
    have hu := (T.ti t ti hti).slice hkn
    obtain ⟨ei, hei, hr⟩ := Option.bind_eq_some_iff.1 hr
    have Te := T.ti te ei hei
    split at hr
    · rename_i e hty
      obtain ⟨hsz, _, hzc⟩ := Te.ty e hty
      split at hr
      · rename_i xs hl
        cases hb : Nat.beq xs.length n && Nat.ble (n * ei.size) 1000 && Nat.ble 1 ei.size with
        | false => simp [hb] at hr
        | true =>
          simp only [hb, cond_true] at hr
          have hr := Option.some.inj hr
          subst hr
          simp only [Bool.and_eq_true] at hb
          have hn := Nat.eq_of_beq_eq_true hb.1.1
          have hle := Nat.le_of_ble_eq_true hb.1.2
          have h1s := Nat.le_of_ble_eq_true hb.2
          have hps := listOf_len _ _ _ hl
          have hn' : n = ps.size := by rw [← hn, hps]; simp
          -- the cells that are filled
          let z : Array Value := if n * ei.size = 0 then #[] else ei.zero.cells
          obtain ⟨cs, hfill, hrows, _⟩ := fill_rows (c := c) 0 _ (ps.toList.map fun x => (x.1, a.eval x.2)) xs [] ((Array.range (n * ei.size)).map (fun i => z[i % z.size]!)).toList hl (by simp) (by
              simp only [List.map_map]
              generalize ps.toList = l
              induction l with
              | nil => trivial
              | cons x l ih => exact ⟨eval_cv h x.2, ih⟩) (by simp) (by rw [← hps, hn, hsz]; simp)
          have hcs := hrows.len
          have hfr := fresh_of h hK
          have hcell : n * ei.size = xs.length * e.sz := by rw [← hn, hsz]
          have hgt : ¬ n * ei.size > 2 ^ 24 := by omega
          refine new_loud (ob := .cells cs.toArray te) (val := .slice (some ⟨c.w.heap.size, 0, none⟩) n n) h hlk hK (cv := .slice (some ⟨c.w.heap.size, 0, none⟩) n n) ?_ ?_ ?_
          · have hf2 : Instr.fill (fun i => some (i * ei.size, ei.size)) ((Array.range (n * ei.size)).map (fun i => z[i % z.size]!)) (ps.map fun (i, x) => (i, a.eval x)).toList = some cs.toArray := by
              rw [show (ps.map fun (i, x) => (i, a.eval x)).toList = ps.toList.map fun x => (x.1, a.eval x.2) from by simp]
              rw [List.nil_append, List.nil_append, Array.toArray_toList, hsz] at hfill
              exact hfill
            by_cases h0 : n * ei.size = 0
            · have hz0 : z = #[] := if_pos h0
              rw [hz0] at hf2
              simp only [execOp, hop, Instr.buildSlice, Sem.run_bind, run_underlying hu, Result.andThen_ok, Te.runSize, if_neg hgt, if_pos h0, Sem.run_pure, hf2]
              rfl
            · have hz0 : z = ei.zero.cells := if_neg h0
              rw [hz0] at hf2
              simp only [execOp, hop, Instr.buildSlice, Sem.run_bind, run_underlying hu, Result.andThen_ok, Te.runSize, if_neg hgt, if_neg h0, Sem.run_pure, Te.runZero, hf2]
              rfl
          · refine ⟨cs, ⟨hcs, .inr ⟨c.w.heap.size, n, cs.toArray, ?_, Nat.zero_le _, ?_, by omega, ?_, ?_, ?_⟩⟩, ?_, fun x => ?_⟩
            · rw [(Ctx.new_at ..).1, hn]
            · exact Ctx.new_heap ..
            · unfold maxLen; rcases Nat.lt_or_ge n 1001 with h | h
              · omega
              · have : n * 1 ≤ n * ei.size := Nat.mul_le_mul_left _ h1s
                omega
            · simp [hcs, hn]
            · rw [← hcs]; simp
            · exact RowsK.mono (fun _ h => h) (fun b hb => heap_alloc_old c.w _ (h.im b hb).1) hrows
            · rw [(Ctx.new_at ..).1, (Ctx.new_at ..).2.2]; simp [Value.ownBlock]; exact eq_comm
          · simp only [CV]; exact ⟨by simp [Ctx.new], by simp [Ctx.new], _, _, _, rfl⟩
      · cases hr
    · cases hr
  · cases hr
end
end Go.Proofs.Ytljimnhijpcjaaa.VC
