/- A region whose order is drawn: its run in any order. Conditions: the contracts of what is called. -/
import Derived.Test.YtbgkalolmichdaaAZ
namespace Go.Proofs.YtbgkalolmichdaaA
open Go
set_option linter.unusedSimpArgs false
set_option linter.unusedVariables false

variable {P : Program} {c : Ctx} {a : Act} {w w' : World} {call : FuncId → List XV → Option Res} {R : Type}

theorem range_split : ∀ {n i : Nat}, i < n → ∃ l, List.range n = List.range i ++ i :: l ∧ ∀ j ∈ l, i < j ∧ j < n
  | 0, i, h => by omega
  | n + 1, i, h => by
    rw [List.range_succ]
    by_cases e : i = n
    · subst e; exact ⟨[], rfl, fun j hj => by cases hj⟩
    · obtain ⟨l, h1, h2⟩ := range_split (n := n) (i := i) (by omega)
      refine ⟨l ++ [n], by rw [h1]; simp, fun j hj => ?_⟩
      rcases List.mem_append.1 hj with hj | hj
      · have := h2 j hj; omega
      · rw [List.mem_singleton.1 hj]; omega

section
variable {α : Type} (f : St → α) (puts : Eff → Bool) (v : Eff → α) (hf : ∀ σ p, f (σ.apply p.1 p.2) = bif puts p then v p else f σ)
include hf

theorem runE_filter : ∀ (l : List Eff) (σ σ' : St), f σ = f σ' → f (runE σ l) = f (runE σ' (l.filter puts))
  | [], σ, σ', h => h
  | p :: l, σ, σ', h => by
    simp only [runE, List.foldl_cons, List.filter_cons]
    cases hp : puts p with
    | true => exact runE_filter l _ _ (by rw [hf, hf, hp]; rfl)
    | false => exact runE_filter l _ _ (by rw [hf, hp]; exact h)

theorem runE_none : ∀ (l : List Eff) (σ : St), (∀ p ∈ l, puts p = false) → f (runE σ l) = f σ
  | [], σ, _ => rfl
  | p :: l, σ, h => by
    simp only [runE, List.foldl_cons]
    have := runE_none l (σ.apply p.1 p.2) fun q hq => h q (by simp [hq])
    simp only [runE] at this
    rw [this, hf, h p (by simp)]; rfl

theorem order_same (eff : Nat → Eff) (σ0 : St) {n : Nat} (A B : Nat → Bool) (h : ∀ j, j < n → puts (eff j) = true → A j = B j) :
    f (runE σ0 (((List.range n).filter A).map eff)) = f (runE σ0 (((List.range n).filter B).map eff)) := by
  rw [runE_filter f puts v hf _ σ0 σ0 rfl, runE_filter f puts v hf (((List.range n).filter B).map eff) σ0 σ0 rfl]
  rw [List.filter_map, List.filter_map, List.filter_filter, List.filter_filter]
  congr 3
  refine List.filter_congr fun j hj => ?_
  have hj := List.mem_range.1 hj
  simp only [Function.comp]
  cases hp : puts (eff j) with
  | false => rfl
  | true => rw [h j hj hp]

theorem order_last (eff : Nat → Eff) (σ0 : St) {n i : Nat} (hi : i < n) (L L' : Nat → Bool) (h0 : ∀ j, j ≠ i → L' j = L j) (h1 : L' i = true) (h2 : puts (eff i) = true → ∀ j, j < n → j ≠ i → puts (eff j) = true → L j = true → j < i) :
    f (runE σ0 (((List.range n).filter L').map eff)) = f ((runE σ0 (((List.range n).filter L).map eff)).apply (eff i).1 (eff i).2) := by
  rw [hf]
  cases hp : puts (eff i) with
  | false =>
    refine order_same f puts v hf eff σ0 L' L fun j hj hpj => h0 j fun e => ?_
    subst e; rw [hp] at hpj; cases hpj
  | true =>
    obtain ⟨l, e1, e2⟩ := range_split hi
    rw [e1, List.filter_append, List.filter_cons, if_pos h1, List.map_append, List.map_cons]
    have hs : ∀ (σ : St) (a b : List Eff), runE σ (a ++ b) = runE (runE σ a) b := fun σ a b => by simp [runE]
    rw [hs]
    show f (runE ((runE σ0 _).apply (eff i).1 (eff i).2) _) = v (eff i)
    rw [runE_none f puts v hf _ _ fun p hp' => ?_, hf, hp]; rfl
    obtain ⟨j, hj, rfl⟩ := List.mem_map.1 hp'
    obtain ⟨hj1, hj2⟩ := List.mem_filter.1 hj
    obtain ⟨q1, q2⟩ := e2 j hj1
    cases hpj : puts (eff j) with
    | false => rfl
    | true =>
      have := h2 hp j q2 (by omega) hpj (by rw [← h0 j (by omega)]; exact hj2)
      omega
end

/-! ### What a run in order tells -/
theorem opsK_tells : ∀ (ms : List MOper) (σ : St) (lg : List Log) (k : St → List Log → Option R) (r : R), opsK call ms σ lg k = some r →
    ∃ outs : List Out, outs.length = ms.length ∧ (∀ i m out, ms[i]? = some m → outs[i]? = some out → tells call m (runE σ ((List.zipWith (fun (m : MOper) o => (m.dst, o)) ms outs).take i)) = some out) ∧
      k (runE σ (List.zipWith (fun (m : MOper) o => (m.dst, o)) ms outs)) (lg.reverse ++ List.zipWith (fun (m : MOper) o => m.log o) ms outs) = some r
  | [], σ, lg, k, r, h => by
    simp only [opsK] at h
    exact ⟨[], rfl, fun i m out hi => by simp at hi, by simpa [runE] using h⟩
  | m :: ms, σ, lg, k, r, h => by
    rw [opsK_cons, outOf_eq] at h
    obtain ⟨⟨σ', l⟩, h1, h2⟩ := Option.bind_eq_some_iff.1 h
    obtain ⟨out, h3, h4⟩ := Option.map_eq_some_iff.1 h1
    cases h4
    obtain ⟨outs, q1, q2, q3⟩ := opsK_tells ms _ _ k r h2
    refine ⟨out :: outs, by simp [q1], fun i m' out' hi ho => ?_, ?_⟩
    · cases i with
      | zero => simp at hi ho; subst hi ho; simpa [runE] using h3
      | succ i =>
        have := q2 i m' out' (by simpa using hi) (by simpa using ho)
        simpa [runE] using this
    · simpa [runE] using q3

theorem trOps_get {nt : Nat} {ops : Array Oper} : ∀ (os : List Oper) (j : Nat) (ms : List MOper), trOps P nt ops j os = some ms → ms.length = os.length ∧ ∀ (i : Nat) (o : Oper), os[i]? = some o →
    ∃ (m : MOp) (g : Option (Nat × Bool)) (sp : Bool), ms[i]? = some (⟨o.dst, m, g, sp⟩ : MOper) ∧ trOp P o.op = some m ∧ guardOf ops o = some g ∧ dstOk nt o.dst = true ∧ storeOk o = true
  | [], j, ms, h => by simp only [trOps] at h; cases h; exact ⟨rfl, fun i o hi => by simp at hi⟩
  | o :: os, j, ms, h => by
    obtain ⟨m, g, l, h1, h2, h3, h4, h5, rfl⟩ := trOps_cons h
    obtain ⟨q1, q2⟩ := trOps_get os (j + 1) l h3
    refine ⟨by simp [q1], fun i o' hi => ?_⟩
    cases i with
    | zero => simp at hi; subst hi; exact ⟨m, g, _, rfl, h1, h2, h4, h5⟩
    | succ i => simpa using q2 i o' (by simpa using hi)

theorem nth_getD {α : Type} (d : α) : ∀ (l : List α) (i : Nat), nth d l i = (l[i]?).getD d
  | [], i => rfl
  | x :: l, 0 => rfl
  | x :: l, i + 1 => by simpa [nth] using nth_getD d l i

theorem countP_lt {p q : Nat → Bool} : ∀ (l : List Nat), (∀ x ∈ l, q x = true → p x = true) → (∃ x ∈ l, p x = true ∧ q x = false) → l.countP q < l.countP p
  | [], _, ⟨x, hx, _⟩ => by cases hx
  | y :: l, h, ⟨x, hx, h1, h2⟩ => by
    simp only [List.countP_cons]
    have hm : l.countP q ≤ l.countP p := List.countP_mono_left fun x hx hq => h x (by simp [hx]) hq
    rcases List.mem_cons.1 hx with rfl | hx
    · rw [h1, h2]; simp; omega
    · have ih := countP_lt l (fun x hx => h x (by simp [hx])) ⟨x, hx, h1, h2⟩
      have : (if q y = true then 1 else 0) ≤ (if p y = true then 1 else 0) := by
        cases hq : q y with
        | false => simp
        | true => rw [h y (by simp) hq]; simp
      omega

theorem meets_of {a b : List Nat} {x : Nat} (ha : x ∈ a) (hb : x ∈ b) : meets a b = true :=
  List.any_eq_true.2 ⟨x, ha, List.any_eq_true.2 ⟨x, hb, Nat.beq_refl x⟩⟩

/-- A region whose order is drawn. -/
theorem region_draw {id : Nat} {ops : Array Oper} (hmix : P.follows .mixedOrders = true) (hall : Calling P call) {Q : Exit → Act → World → Prop} {k : St → Option R} {r : R} {ms : List MOper} {σ : St}
    (ht : trOps P c.nt ops 0 ops.toList = some ms) (hedge : edgesOk 0 ops.toList = true) (hG : G c σ a w)
    (h : (opsK call ms σ [] fun σ lg => bif apartAll lg (Region.before ops).toList then k σ else none) = some r) (hQ : ∀ σ' a' w', G c σ' a' w' → k σ' = some r → Q .normal a' w') : (Code.region id ops true).wp P Q a w := by
  obtain ⟨outs, hlen, htell, hk⟩ := opsK_tells ms σ [] _ r h
  obtain ⟨hml, hget⟩ := trOps_get ops.toList 0 ms ht
  have hml : ms.length = ops.size := by simpa using hml
  generalize hn : ops.size = n at *
  let eff : Nat → Eff := fun i => ((List.zipWith (fun (m : MOper) o => (m.dst, o)) ms outs)[i]?).getD (none, ⟨.undef, [], []⟩)
  let lgs := List.zipWith (fun (m : MOper) o => m.log o) ms outs
  have hzl : (List.zipWith (fun (m : MOper) o => (m.dst, o)) ms outs).length = n := by simp [hlen, hml]
  have hll : lgs.length = n := by simp [lgs, hlen, hml]
  have hrange : ∀ i, i ≤ n → (List.zipWith (fun (m : MOper) o => (m.dst, o)) ms outs).take i = (List.range i).map eff := fun i hi => by
    refine List.ext_getElem? fun j => ?_
    rw [List.getElem?_take]
    by_cases hj : j < i
    · rw [if_pos hj, List.getElem?_map, List.getElem?_range hj]
      simp only [Option.map_some, eff]
      have : j < (List.zipWith (fun (m : MOper) o => (m.dst, o)) ms outs).length := by omega
      rw [List.getElem?_eq_getElem this]; rfl
    · rw [if_neg hj, List.getElem?_eq_none (by simp; omega)]
  -- what each operation tells
  have hop : ∀ (i : Nat) (o : Oper), ops[i]? = some o → ∃ (m : MOp) (g : Option (Nat × Bool)) (sp : Bool) (out : Out), ms[i]? = some (⟨o.dst, m, g, sp⟩ : MOper) ∧ outs[i]? = some out ∧ trOp P o.op = some m ∧ guardOf ops o = some g ∧ dstOk c.nt o.dst = true ∧ storeOk o = true ∧ eff i = (o.dst, out) ∧
      (lgs[i]?).getD ⟨none, [], [], []⟩ = (⟨o.dst, m, g, sp⟩ : MOper).log out ∧ tells call ⟨o.dst, m, g, sp⟩ (runE σ ((List.range i).map eff)) = some out := fun i o hi => by
    obtain ⟨m, g, sp, q1, q2, q3, q4, q5⟩ := hget i o (by simpa using hi)
    have hin : i < n := by
      have := (Array.getElem?_eq_some_iff.1 hi).1
      omega
    obtain ⟨out, ho⟩ : ∃ out, outs[i]? = some out := ⟨outs[i], List.getElem?_eq_getElem (by omega)⟩
    refine ⟨m, g, sp, out, q1, ho, q2, q3, q4, q5, ?_, ?_, ?_⟩
    · simp [eff, List.getElem?_zipWith, q1, ho]
    · simp [lgs, List.getElem?_zipWith, q1, ho]
    · have := htell i _ out q1 ho
      rwa [hrange i (by omega)] at this
  have hap : apartAll lgs (Region.before ops).toList = true ∧ k (runE σ ((List.range n).map eff)) = some r := by
    have e := hrange n (Nat.le_refl n)
    rw [List.take_of_length_le (by omega)] at e
    rw [e] at hk
    simp only [List.reverse_nil, List.nil_append] at hk
    cases hc : apartAll lgs (Region.before ops).toList with
    | true => rw [show apartAll (List.zipWith (fun (m : MOper) o => m.log o) ms outs) (Region.before ops).toList = true from hc] at hk; exact ⟨rfl, hk⟩
    | false => rw [show apartAll (List.zipWith (fun (m : MOper) o => m.log o) ms outs) (Region.before ops).toList = false from hc] at hk; cases hk
  obtain ⟨hap, hk⟩ := hap
  have hapart : ∀ i j, i < j → j < n → ((Region.before ops).getD j 0).testBit i = true ∨ ((lgs[i]?).getD ⟨none, [], [], []⟩).apart ((lgs[j]?).getD ⟨none, [], [], []⟩) = true := fun i j hij hj => by
    have h1 := List.all_eq_true.1 hap j (List.mem_range.2 (by omega))
    have h2 := List.all_eq_true.1 h1 i (List.mem_range.2 hij)
    simp only [nth_getD, Bool.or_eq_true] at h2
    rcases h2 with h2 | h2
    · left
      rw [Array.getD_eq_getD_getElem?]
      simpa using h2
    · exact .inr h2
  let L : Array Bool → Nat → Bool := fun listed i => listed.getD i false
  let st : Array Bool → St := fun listed => runE σ (((List.range n).filter (L listed)).map eff)
  let closed : Array Bool → Prop := fun listed => ∀ j o, ops[j]? = some o → L listed j = true → ∀ e ∈ o.after, Region.binds .any e = true → L listed e.on = true
  have hsome : ∀ {j : Nat}, j < n → ∃ o, ops[j]? = some o := fun {j} hj => ⟨ops[j]'(by omega), by rw [Array.getElem?_eq_getElem]⟩
  have hclosed : ∀ listed, listed.size = n → closed listed → ∀ j, L listed j = true → ∀ i, ((Region.before ops).getD j 0).testBit i = true → L listed i = true := by
    intro listed hsz hc j
    induction j using Nat.strongRecOn with
    | _ j ih =>
      intro hj i hb
      have hjn : j < n := by
        rcases Nat.lt_or_ge j n with h' | h'
        · exact h'
        · simp only [L, Array.getD_eq_getD_getElem?, Array.getElem?_eq_none (show listed.size ≤ j by omega)] at hj; cases hj
      obtain ⟨o, ho⟩ := hsome hjn
      obtain ⟨e, he, hbe, h1⟩ := before_edge ho hb
      have hle := hc j o ho hj e he hbe
      rcases h1 with h1 | ⟨h1, h2⟩
      · rw [← h1]; exact hle
      · exact ih e.on h1 hle i h2
  refine wp_region_any hmix ?_
  rw [hn]
  have main : ∀ (fuel : Nat) (listed : Array Bool) (a : Act) (w : World), listed.size = n → closed listed → (List.range n).countP (fun i => !L listed i) ≤ fuel → G c (st listed) a w → wpAny P .any ops Q fuel listed a w := by
    intro fuel
    have hready : ∀ listed : Array Bool, listed.size = n → ∀ i, i ∈ Region.ready .any ops listed ↔ i < n ∧ L listed i = false ∧ ∃ o, ops[i]? = some o ∧ ∀ e ∈ o.after, Region.binds .any e = true → L listed e.on = true := by
      intro listed hsz i
      unfold Region.ready
      rw [List.mem_filter, List.mem_range, hn]
      constructor
      · rintro ⟨h1, h2⟩
        obtain ⟨o, ho⟩ := hsome h1
        rw [ho] at h2
        simp only [Option.map_some, Option.getD_some, Bool.and_eq_true, Bool.not_eq_true'] at h2
        refine ⟨h1, ?_, o, ho, fun e he hb => ?_⟩
        · simp only [L, Array.getD_eq_getD_getElem?] at *
          rw [Array.getElem?_eq_getElem (show i < listed.size by omega)] at *
          exact h2.1
        · have := Array.all_eq_true'.1 h2.2 e he
          rw [hb] at this
          simp only [Bool.not_true, Bool.false_or] at this
          exact this
      · rintro ⟨h1, h2, o, ho, h3⟩
        refine ⟨h1, ?_⟩
        rw [ho]
        simp only [Option.map_some, Option.getD_some, Bool.and_eq_true, Bool.not_eq_true']
        refine ⟨?_, Array.all_eq_true'.2 fun e he => ?_⟩
        · simp only [L, Array.getD_eq_getD_getElem?] at *
          rw [Array.getElem?_eq_getElem (show i < listed.size by omega)] at *
          exact h2
        · cases hb : Region.binds .any e with
          | false => rfl
          | true => simp only [Bool.not_true, Bool.false_or]; exact h3 e he hb
    have hnil : ∀ listed : Array Bool, listed.size = n → Region.ready .any ops listed = [] → ∀ i, i < n → L listed i = true := by
      intro listed hsz h0 i
      induction i using Nat.strongRecOn with
      | _ i ih =>
        intro hi
        cases hl : L listed i with
        | true => rfl
        | false =>
          obtain ⟨o, ho⟩ := hsome hi
          have : i ∈ Region.ready .any ops listed := (hready listed hsz i).2 ⟨hi, hl, o, ho, fun e he hb => by
            have := edgesOk_get ops.toList 0 hedge i o (by simpa using ho) e he hb
            exact ih e.on (by omega) (by omega)⟩
          rw [h0] at this; cases this
    have hfin : ∀ listed : Array Bool, (∀ i, i < n → L listed i = true) → ∀ a w, G c (st listed) a w → Q .normal a w := by
      intro listed hl a w hG
      have e : (List.range n).filter (L listed) = List.range n := List.filter_eq_self.2 fun i hi => hl i (List.mem_range.1 hi)
      simp only [st, e] at hG
      exact hQ _ a w hG hk
    induction fuel with
    | zero =>
      intro listed a w hsz hc hcnt hG
      have hl : ∀ i, i < n → L listed i = true := fun i hi => by
        have h0 : (List.range n).countP (fun i => !L listed i) = 0 := by omega
        have := List.countP_eq_zero.1 h0 i (List.mem_range.2 hi)
        simpa using this
      refine ⟨?_, hfin listed hl a w hG⟩
      refine List.eq_nil_iff_forall_not_mem.2 fun i hi => ?_
      obtain ⟨h1, h2, _⟩ := (hready listed hsz i).1 hi
      rw [hl i h1] at h2; cases h2
    | succ fuel ih =>
      intro listed a w hsz hc hcnt hG
      refine ⟨fun h0 => hfin listed (hnil listed hsz h0) a w hG, fun i hi => ?_⟩
      obtain ⟨hin, hnl, o, ho, hes⟩ := (hready listed hsz i).1 hi
      obtain ⟨m, g, sp, out, q1, q2, q3, q4, q5, q6, q7, q8, q9⟩ := hop i o ho
      -- what stands before i is done
      have hbefore : ∀ j, ((Region.before ops).getD i 0).testBit j = true → L listed j = true := fun j hb => by
        obtain ⟨e, he, hbe, h1⟩ := before_edge ho hb
        rcases h1 with h1 | ⟨_, h2⟩
        · rw [← h1]; exact hes e he hbe
        · exact hclosed listed hsz hc e.on (hes e he hbe) j h2
      have hside : ∀ j, j < n → j ≠ i → (((lgs[j]?).getD ⟨none, [], [], []⟩).apart ((lgs[i]?).getD ⟨none, [], [], []⟩) = false) → (((lgs[i]?).getD ⟨none, [], [], []⟩).apart ((lgs[j]?).getD ⟨none, [], [], []⟩) = false) → L listed j = decide (j < i) := by
        intro j hj hne ha hb
        rcases Nat.lt_or_ge j i with h' | h'
        · rcases hapart j i h' hin with h2 | h2
          · rw [hbefore j h2]; simp [h']
          · rw [ha] at h2; cases h2
        · have hlt : i < j := by omega
          rcases hapart i j hlt hj with h2 | h2
          · cases hl : L listed j with
            | false => simp; omega
            | true =>
              have := hclosed listed hsz hc j hl i h2
              rw [hnl] at this; cases this
          · rw [hb] at h2; cases h2
      have hsideT : ∀ t, t ∈ o.dst.toList ++ ((⟨o.dst, m, g, sp⟩ : MOper).log out).looks → ∀ j, j < n → j ≠ i → putsT t (eff j) = true → L listed j = decide (j < i) := by
        intro t ht j hj hne hp
        obtain ⟨oj, hoj⟩ := hsome hj
        obtain ⟨m', g', sp', out', p1, p2, p3, p4, p5, p6, p7, p8, p9⟩ := hop j oj hoj
        have hd : t ∈ ((⟨oj.dst, m', g', sp'⟩ : MOper).log out').dsts := by
          rw [p7] at hp
          simp only [putsT] at hp
          simp only [MOper.log, Log.dsts]
          cases hd : oj.dst with
          | none => rw [hd] at hp; cases hp
          | some u => rw [hd] at hp; simp [beq_true hp]
        refine hside j hj hne ?_ ?_
        · rw [p8, q8]
          have : meets ((⟨oj.dst, m', g', sp'⟩ : MOper).log out').dsts (((⟨o.dst, m, g, sp⟩ : MOper).log out).dsts ++ ((⟨o.dst, m, g, sp⟩ : MOper).log out).looks) = true := meets_of hd (by simpa [MOper.log, Log.dsts] using ht)
          simp [Log.apart, this]
        · rw [p8, q8]
          rcases List.mem_append.1 ht with ht | ht
          · have : meets ((⟨o.dst, m, g, sp⟩ : MOper).log out).dsts (((⟨oj.dst, m', g', sp'⟩ : MOper).log out').dsts ++ ((⟨oj.dst, m', g', sp'⟩ : MOper).log out').looks) = true := meets_of (x := t) (by simpa [MOper.log, Log.dsts] using ht) (List.mem_append.2 (.inl hd))
            simp [Log.apart, this]
          · have : meets ((⟨oj.dst, m', g', sp'⟩ : MOper).log out').dsts ((⟨o.dst, m, g, sp⟩ : MOper).log out).looks = true := meets_of hd ht
            simp [Log.apart, this]
      have hsideO : ∀ x, x ∈ ((⟨o.dst, m, g, sp⟩ : MOper).log out).wr ++ ((⟨o.dst, m, g, sp⟩ : MOper).log out).rd → ∀ j, j < n → j ≠ i → putsO x (eff j) = true → L listed j = decide (j < i) := by
        intro x hx j hj hne hp
        obtain ⟨oj, hoj⟩ := hsome hj
        obtain ⟨m', g', sp', out', p1, p2, p3, p4, p5, p6, p7, p8, p9⟩ := hop j oj hoj
        have hd : x ∈ ((⟨oj.dst, m', g', sp'⟩ : MOper).log out').wr := by
          rw [p7] at hp
          obtain ⟨y, hy, e⟩ := List.any_eq_true.1 hp
          rw [beq_true e]; exact hy
        refine hside j hj hne ?_ ?_
        · rw [p8, q8]
          have : meets ((⟨oj.dst, m', g', sp'⟩ : MOper).log out').wr (((⟨o.dst, m, g, sp⟩ : MOper).log out).wr ++ ((⟨o.dst, m, g, sp⟩ : MOper).log out).rd) = true := meets_of hd hx
          simp [Log.apart, this]
        · rw [p8, q8]
          rcases List.mem_append.1 hx with hx | hx
          · have : meets ((⟨o.dst, m, g, sp⟩ : MOper).log out).wr (((⟨oj.dst, m', g', sp'⟩ : MOper).log out').wr ++ ((⟨oj.dst, m', g', sp'⟩ : MOper).log out').rd) = true := meets_of hx (List.mem_append.2 (.inl hd))
            simp [Log.apart, this]
          · have : meets ((⟨oj.dst, m', g', sp'⟩ : MOper).log out').wr ((⟨o.dst, m, g, sp⟩ : MOper).log out).rd = true := meets_of hd hx
            simp [Log.apart, this]
      have hfT : ∀ t (σ : St) (p : Eff), (σ.apply p.1 p.2).tmp t = bif putsT t p then p.2.val else σ.tmp t := fun t σ p => by
        rw [apply_tmp]; cases putsT t p <;> rfl
      have hfO : ∀ x (σ : St) (p : Eff), (σ.apply p.1 p.2).obj x = bif putsO x p then ((⟨[], []⟩ : St).apply p.1 p.2).obj x else σ.obj x := fun x σ p => by
        cases hp : putsO x p with
        | true => exact apply_obj_in _ _ p x hp
        | false => exact apply_obj_out _ p x hp
      have hrl : (List.range i).map eff = ((List.range n).filter (fun j => decide (j < i))).map eff := by
        obtain ⟨l, e1, e2⟩ := range_split hin
        rw [e1, List.filter_append, List.filter_cons, if_neg (by simp)]
        rw [List.filter_eq_self.2 (fun j hj => by simpa using List.mem_range.1 hj), List.filter_eq_nil_iff.2 (fun j hj => by have := e2 j hj; simp; omega), List.append_nil]
      have hlook : L listed i = decide (i < i) := by rw [hnl]; simp
      have htell' : tells call ⟨o.dst, m, g, sp⟩ (st listed) = some out := by
        refine tells_local q9 (fun t ht => ?_) (fun x hx => ?_)
        · rw [hrl]
          refine order_same (fun σ => σ.tmp t) (putsT t) (fun p => p.2.val) (hfT t) eff σ (L listed) _ fun j hj hp => ?_
          by_cases e : j = i
          · rw [e]; exact hlook
          · exact hsideT t (List.mem_append.2 (.inr ht)) j hj e hp
        · rw [hrl]
          refine order_same (fun σ => σ.obj x) (putsO x) _ (hfO x) eff σ (L listed) _ fun j hj hp => ?_
          by_cases e : j = i
          · rw [e]; exact hlook
          · exact hsideO x hx j hj e hp
      have hL' : ∀ j, L (listed.setIfInBounds i true) j = if j = i then true else L listed j := fun j => by
        simp only [L, Array.getD_eq_getD_getElem?]
        by_cases e : j = i
        · subst e
          rw [if_pos rfl, Array.getElem?_setIfInBounds_self_of_lt (by omega)]; rfl
        · rw [if_neg e, Array.getElem?_setIfInBounds_ne (Ne.symm e)]
      have hst : ∀ a w, G c ((st listed).apply o.dst out) a w → G c (st (listed.setIfInBounds i true)) a w := fun a w hG => by
        refine G_ext (fun t => ?_) (fun x => ?_) hG
        · have := order_last (fun σ => σ.tmp t) (putsT t) (fun p => p.2.val) (hfT t) eff σ hin (L listed) (L (listed.setIfInBounds i true)) (fun j hj => by rw [hL', if_neg hj]) (by rw [hL', if_pos rfl]) (fun hp j hj hne hpj hlj => by
            have htd : t ∈ o.dst.toList := by
              rw [q7] at hp
              simp only [putsT] at hp
              cases hd : o.dst with
              | none => rw [hd] at hp; cases hp
              | some u => rw [hd] at hp; simp [beq_true hp]
            have := hsideT t (List.mem_append.2 (.inl htd)) j hj hne hpj
            rw [hlj] at this; simpa using this.symm)
          rw [q7] at this
          exact this.symm
        · have := order_last (fun σ => σ.obj x) (putsO x) _ (hfO x) eff σ hin (L listed) (L (listed.setIfInBounds i true)) (fun j hj => by rw [hL', if_neg hj]) (by rw [hL', if_pos rfl]) (fun hp j hj hne hpj hlj => by
            have hxw : x ∈ ((⟨o.dst, m, g, sp⟩ : MOper).log out).wr := by
              rw [q7] at hp
              obtain ⟨y, hy, e⟩ := List.any_eq_true.1 hp
              rw [beq_true e]; exact hy
            have := hsideO x (List.mem_append.2 (.inl hxw)) j hj hne hpj
            rw [hlj] at this; simpa using this.symm)
          rw [q7] at this
          exact this.symm
      have hout : outOf call ⟨o.dst, m, g, sp⟩ (st listed) = some ((st listed).apply o.dst out, (⟨o.dst, m, g, sp⟩ : MOper).log out) := by rw [outOf_eq, htell']; rfl
      unfold wpOp
      rw [ho]
      simp only
      refine out_shows hall q3 q4 q5 q6 hG hout fun a' w' hG' => ?_
      refine ih (listed.setIfInBounds i true) a' w' (by simp [hsz]) ?_ ?_ (hst a' w' hG')
      · intro j oj hoj hlj e he hbe
        rw [hL'] at hlj ⊢
        by_cases e1 : e.on = i
        · rw [if_pos e1]
        · rw [if_neg e1]
          by_cases e2 : j = i
          · subst e2
            rw [ho] at hoj; cases hoj
            exact hes e he hbe
          · rw [if_neg e2] at hlj
            exact hc j oj hoj hlj e he hbe
      · have := countP_lt (p := fun i => !L listed i) (q := fun j => !L (listed.setIfInBounds i true) j) (List.range n) (fun j _ hq => by
          rw [hL'] at hq
          by_cases e : j = i
          · rw [if_pos e] at hq; cases hq
          · rwa [if_neg e] at hq) ⟨i, List.mem_range.2 hin, by rw [hnl]; rfl, by rw [hL', if_pos rfl]; rfl⟩
        omega
  refine main n (Array.replicate n false) a _ (by simp) ?_ ?_ ?_
  · intro j o ho hl
    simp only [L, Array.getD_eq_getD_getElem?] at hl
    rw [Array.getElem?_replicate] at hl
    split at hl <;> cases hl
  · exact Nat.le_trans List.countP_le_length (by simp)
  · have e : (List.range n).filter (L (Array.replicate n false)) = [] := List.filter_eq_nil_iff.2 fun j hj => by
      simp only [L, Array.getD_eq_getD_getElem?, Array.getElem?_replicate]
      split <;> simp
    simp only [st, e]
    obtain ⟨gh, hg⟩ := hG
    obtain ⟨m1, hs⟩ := hg.mem.world (w' := { w with drawn := w.drawn + 1 }) rfl rfl rfl rfl
    exact ⟨gh, ⟨m1, fun t => RV.move hs (fun _ _ h => h) (fun _ => Stays.same rfl rfl) _ _ (hg.tm t), hg.nd, hg.nt, hg.hand⟩⟩

end Go.Proofs.YtbgkalolmichdaaA
