/-
  bits.List's contract, as the abstract interpreter takes it. By this seat's session.
-/
import Derived.Test.YtjcgaelibiiiiaaDoorList
import Derived.Test.YtjcgaelibiiiiaaDoorCheck
import Derived.Test.YtjcgaelibiiiiaaDoorSort
set_option linter.unusedVariables false
set_option linter.unusedSimpArgs false
namespace Go.Proofs.YtjcgaelibiiiiaaDoor
open Go.Abs Go.RowKit Go.Shelf Go.Proofs

theorem words_eq : ∀ (es : List (List AVal)) (ws : List (Int × Int)), words es = some ws → es = wordsA ws
  | [], ws, h => by simp [words] at h; subst h; rfl
  | e :: es, ws, h => by
    unfold words at h
    split at h
    · rename_i h1; exact absurd h1 (by simp)
    · rename_i h1
      cases h1
      obtain ⟨l, hl, rfl⟩ := Option.map_eq_some_iff.1 h
      rw [words_eq _ _ hl]; rfl
    · cases h
theorem ext0_ok : ExtOK Tryd.prog (EX fun _ => none) := by
  intro g args base gs rs gs' h
  exact absurd h (by simp [EX, envOf, marksX])
theorem env_ok (x : ExtF) : EnvOK Tryd.prog (EX x) := envOf_ok (by kernel_rfl)
/-- A row that is the call's own, as a value. -/
theorem ownsRow_sl {A : Gh} {X : Nat → Prop} {w : World} {n0 : Nat} {v : Value} {zs : List Int} (h : w.ownsRow n0 3 1 v zs.length (zs.map (Value.int .i64))) (hX : ∀ b, n0 ≤ b → ¬ X b) : Rep A X w v (.sl (zs.map fun z => [.raw (.int .i64 z)])) := by
  rcases h.2 with ⟨rfl, h0⟩ | ⟨g, cap, cur, rfl, hb, hh, hc, _, _, ht⟩
  · have : zs = [] := List.eq_nil_of_length_eq_zero h0
    subst this
    exact .nil _ _
  · have hcell : ∀ i, i < zs.length → w.cell? ⟨g, 0 + i, none⟩ = some (.int .i64 (zs.getD i 0)) := by
      intro i hi
      have e : (cur.toList.take (zs.length * 1))[i]? = (zs.map (Value.int .i64))[i]? := by rw [ht]
      rw [List.getElem?_take, if_pos (by omega)] at e
      simp only [World.cell?, hh, Nat.zero_add]
      rw [← Array.getElem?_toList, e]
      simp [hi]
    refine .sl ⟨g, 0, none⟩ zs.length cap 1 _ (fun i _ => .int .i64 (zs.getD i 0)) (by omega) (by simp) hc (fun e he => by obtain ⟨z, _, rfl⟩ := List.mem_map.1 he; rfl) (fun i e j x h1 h2 => ?_) (fun i e j x h1 h2 => ?_)
    · have hi : i < zs.length := by have := (List.getElem?_eq_some_iff.1 h1).1; simpa using this
      have he : e = [.raw (.int .i64 zs[i])] := by simp [hi] at h1; exact h1.symm
      subst he
      have hj : j = 0 := by have := (List.getElem?_eq_some_iff.1 h2).1; simpa using this
      subst hj
      simp at h2; subst h2
      refine ⟨rfl, hX g hb, ?_⟩
      have := hcell i hi
      rw [add_cells]
      simpa using this
    · have hi : i < zs.length := by have := (List.getElem?_eq_some_iff.1 h1).1; simpa using this
      have he : e = [.raw (.int .i64 zs[i])] := by simp [hi] at h1; exact h1.symm
      subst he
      have hj : j = 0 := by have := (List.getElem?_eq_some_iff.1 h2).1; simpa using this
      subst hj
      simp at h2; subst h2
      have : zs.getD i 0 = zs[i] := by simp [List.getD_eq_getElem?_getD, hi]
      rw [this]
      exact .raw _
theorem ip_inv2 {A : Gh} {X : Nat → Prop} {w : World} {v : Value} {cs : List AVal} (h : Rep A X w v (.ip cs)) : ∃ (ad : Addr) (f : Nat → Value), v = .pointer (some ad) ∧ (∀ j x, cs[j]? = some x → x.fixed = true ∧ ¬ X ad.block ∧ w.cell? (ad.add j) = some (f j)) ∧ ∀ j x, cs[j]? = some x → Rep A X w (f j) x := by
  cases h with
  | ip ad cs f hm hr => exact ⟨ad, f, rfl, hm, hr⟩
theorem tab_of {A : Gh} {F : Nat → Prop} {w : World} {m : Mem} {H0 N0 : Nat} {x : ExtF} (h : WOK (EX x) A F w m H0 N0) : TabAt 0 Lib.deBruijn64tab w ∧ 0 < w.heap.size := by
  obtain ⟨ad, f, e, hm, hr⟩ := ip_inv2 (h.glob 0 (Lib.deBruijn64tab.map fun (n : Nat) => .raw (.int .u8 n)) rfl)
  cases e
  have cell : ∀ j, j < Lib.deBruijn64tab.length → w.cell? ⟨0, j, none⟩ = some (.int .u8 (Lib.deBruijn64tab.getD j 0 : Nat)) := by
    intro j hj
    have hx : (Lib.deBruijn64tab.map fun (n : Nat) => AVal.raw (.int .u8 n))[j]? = some (.raw (.int .u8 (Lib.deBruijn64tab.getD j 0 : Nat))) := by
      rw [List.getElem?_map, List.getElem?_eq_getElem hj]
      simp [List.getD_eq_getElem?_getD, List.getElem?_eq_getElem hj]
    have h1 := (hm j _ hx).2.2
    have h2 := (hr j _ hx).raw_inv
    rw [add_cells, Nat.zero_add, h2] at h1
    exact h1
  exact ⟨cell, by have := cell_lt (cell 0 (by decide)); exact this⟩
theorem none_of (A : Gh) (X : Nat → Prop) {w : World} {v : Value} {a : AVal} (h : Rep A X w v a) (hf : a.fixed = true) : Rep (fun _ _ => none) (fun _ => False) w v a :=
  (h.fixed_any hf).shrink (fun _ hb => hb.elim)
/-- bits.Check, as a call. -/
theorem check_calls {A : Gh} {X : Nat → Prop} {w : World} {v : Value} {ws : List (Int × Int)} (hl : ws.length < 2 ^ 63) (hT : TabAt 0 Lib.deBruijn64tab w) (h : Rep A X w v (.sl (wordsA ws))) :
    Calls Tryd.prog 15 #[v] w fun e W' => e = .returned (.int .i64 (if goodI (-1) ws then 0 else 8)) ∧ Below w.heap.size w W' := by
  obtain ⟨n, hn⟩ := ev15 (x := fun _ => none) rfl ws hl 0 ⟨⟨[]⟩, 0⟩
  refine calls_raw (env_ok _) ext0_ok (fun g cs hg => ?_) (by kernel_rfl) (avs := [.sl (wordsA ws)]) (vs := [v]) (.cons (none_of A X h rfl) .nil) rfl hn
  have hg' : (if g = 0 then some (Lib.deBruijn64tab.map fun (n : Nat) => AVal.raw (.int .u8 n)) else none) = some cs := hg
  split at hg'
  · rename_i h0
    subst h0
    cases hg'
    refine .ip ⟨0, 0, none⟩ _ (fun j => .int .u8 (Lib.deBruijn64tab.getD j 0 : Nat)) (fun j x hx => ?_) (fun j x hx => ?_)
    · have hj : j < Lib.deBruijn64tab.length := by have := (List.getElem?_eq_some_iff.1 hx).1; simpa using this
      rw [List.getElem?_map, List.getElem?_eq_getElem hj] at hx
      simp at hx; subst hx
      refine ⟨rfl, fun h => h, ?_⟩
      rw [add_cells, Nat.zero_add]
      exact hT j hj
    · have hj : j < Lib.deBruijn64tab.length := by have := (List.getElem?_eq_some_iff.1 hx).1; simpa using this
      rw [List.getElem?_map, List.getElem?_eq_getElem hj] at hx
      simp at hx; subst hx
      have : (Lib.deBruijn64tab.getD j 0) = Lib.deBruijn64tab[j] := by simp [List.getD_eq_getElem?_getD, List.getElem?_eq_getElem hj]
      rw [this]
      exact .raw _
  · cases hg'
/-- What a call leaves that only adds to the heap, and answers a row or nothing and a number. -/
theorem post_two {x : ExtF} {A : Gh} {F : Nat → Prop} {w w' : World} {gs : GS} (h : WOK (EX x) A F w ⟨noL, gs⟩ w.heap.size gs.n) (hloc : ∀ k g, A (.loc k) g = none) (hb : Below w.heap.size w w') {base : Nat} {v : Value} {es : List (List AVal)} (c : Int)
    (hv : Rep A (Abs.Own A ⟨noL, gs⟩ (fun b => F b ∨ b ∈ ([] : List Nat))) w' v (.sl es)) : CallPost (EX x) false base A F w gs [.v (.sl es), .v (.raw (.int .i64 c))] gs (.tuple #[v, .int .i64 c]) w' := by
  obtain ⟨h1, h2⟩ := h.world base hb.size (fun b hlt => hb.block b hlt) ⟨hb.os, hb.tape, hb.output⟩
  refine ⟨A, [], [v, .int .i64 c], rfl, hloc, h2, by simpa using h1, by simp, List.nodup_nil, .v _ _ _ _ _ hv (.v _ _ _ _ _ (.raw _) .nil), rfl⟩
theorem list_sound {x : ExtF} : SoundAt (EX x) 8 listF := by
  intro args base gs rs gs' h' hargs hbase heff
  refine ⟨⟨Tryd.f8, by kernel_rfl, by kernel_rfl⟩, fun A F w vargs hloc hW hr => ?_⟩
  unfold listF at h'
  split at h'
  · rename_i es
    obtain ⟨ws, hws, h2⟩ := Option.bind_eq_some_iff.1 h'
    obtain rfl := words_eq _ _ hws
    obtain ⟨hT, h0n⟩ := tab_of hW
    obtain ⟨v, rfl⟩ : ∃ v, vargs = [v] := by
      match vargs, hr.1 with
      | [v], _ => exact ⟨v, rfl⟩
    have hrv := hr.head
    show Calls Tryd.prog 8 #[v] w _
    have hrep : ∀ w', Below w.heap.size w w' → Rep (fun _ _ => none) (fun _ => False) w' v (.sl (wordsA ws)) := fun w' hB => (none_of A _ hrv rfl).mono (.refl _) (fun b hb _ => hB.block b hb) (fun _ _ h => h)
    have htab : ∀ w', Below w.heap.size w w' → TabAt 0 Lib.deBruijn64tab w' := fun w' hB j hj => (hB.cell (p := ⟨0, j, none⟩) h0n).trans (hT j hj)
    obtain ⟨sa, cap, hv, hlc⟩ := hrv.sl_inv
    have hown : ∀ b, w.heap.size ≤ b → ¬ Abs.Own A ⟨noL, gs⟩ (fun b => F b ∨ b ∈ ([] : List Nat)) b := by
      intro b hb ho
      have e : (fun b => F b ∨ b ∈ ([] : List Nat)) = F := by funext b; simp
      rw [e] at ho
      have := hW.own_lt ho
      omega
    by_cases hgood : goodI (-1) ws = true
    · rw [if_pos hgood] at h2
      split at h2
      · rename_i hbds
        simp only [Option.some.injEq, Prod.mk.injEq] at h2
        obtain ⟨rfl, rfl⟩ := h2
        simp only [Bool.and_eq_true, decide_eq_true_eq, List.all_eq_true] at hbds
        obtain ⟨hb1, hb2⟩ := hbds
        have hln : (natW ws).length = ws.length := by simp [natW]
        obtain ⟨b, off, hsa, hcells⟩ : ∃ b off, (0 < ws.length → sa = some ⟨b, off, none⟩ ∧ b < w.heap.size) ∧ ∀ j q, ws[j]? = some q → w.cell? ⟨b, off + j * 2, none⟩ = some (.int .i64 q.1) ∧ w.cell? ⟨b, off + j * 2 + 1, none⟩ = some (.int .u64 q.2) := by
          by_cases hne : wordsA ws = []
          · have : ws = [] := by simpa [wordsA] using hne
            subst this
            exact ⟨0, 0, fun h => absurd h (by simp), fun j q hq => by simp at hq⟩
          · obtain ⟨ad, c', sz, f, hv', h0, hc', hl', hm, hr'⟩ := hrv.sl_inv' hne
            have hsz : sz = 2 := by
              match ws, hne with
              | q :: l, _ => have := hl' (wordC q) (by simp [wordsA]); simpa using this.symm
            subst hsz
            have each : ∀ j q, ws[j]? = some q → w.cell? (ad.add (j * 2 + 0)) = some (.int .i64 q.1) ∧ w.cell? (ad.add (j * 2 + 1)) = some (.int .u64 q.2) := by
              intro j q hq
              have a1 := hm j (wordC q) 0 (.raw (.int .i64 q.1)) (wordsA_get hq) rfl
              have a2 := hm j (wordC q) 1 (.raw (.int .u64 q.2)) (wordsA_get hq) rfl
              have b1 := (hr' j (wordC q) 0 (.raw (.int .i64 q.1)) (wordsA_get hq) rfl).raw_inv
              have b2 := (hr' j (wordC q) 1 (.raw (.int .u64 q.2)) (wordsA_get hq) rfl).raw_inv
              exact ⟨by rw [a1.2.2, b1], by rw [a2.2.2, b2]⟩
            obtain ⟨q0, hq0⟩ : ∃ q, ws[0]? = some q := by
              match ws, hne with
              | q :: l, _ => exact ⟨q, rfl⟩
            have hspot : ad = ⟨ad.block, ad.off, none⟩ := by
              have h1 := (each 0 q0 hq0).1
              simp only [Nat.zero_mul, Nat.add_zero] at h1
              rw [show ad.add 0 = ad from rfl] at h1
              obtain ⟨bb, oo, sp⟩ := ad
              cases sp with
              | none => rfl
              | some z => simp [World.cell?] at h1; split at h1 <;> simp at h1
            have hlt := cell_lt (each 0 q0 hq0).1
            rw [add_block] at hlt
            rw [hv] at hv'
            simp only [Value.slice.injEq] at hv'
            refine ⟨ad.block, ad.off, fun _ => ⟨by rw [hv'.1, hspot], hlt⟩, fun j q hq => ?_⟩
            have := each j q hq
            rw [hspot, add_cells, add_cells] at this
            simpa [Nat.add_assoc] using this
        have hnat : ∀ (j : Nat) (p : Nat × Nat), (natW ws)[j]? = some p → ∃ q, ws[j]? = some q ∧ p = (q.1.toNat, q.2.toNat) := by
          intro j p hp
          simp only [natW, List.getElem?_map, Option.map_eq_some_iff] at hp
          obtain ⟨q, hq, rfl⟩ := hp
          exact ⟨q, hq, rfl⟩
        have hrange : ∀ q ∈ ws, 0 ≤ q.1 ∧ q.1 < 16384 := by
          have : ∀ (l : List (Int × Int)) (last : Int), -1 ≤ last → goodI last l = true → ∀ q ∈ l, 0 ≤ q.1 ∧ q.1 < 16384 := by
            intro l
            induction l with
            | nil => intro last _ _ q hq; simp at hq
            | cons a l ih =>
              intro last hlast hg q hq
              simp only [goodI, Bool.and_eq_true, decide_eq_true_eq] at hg
              rcases List.mem_cons.1 hq with rfl | hq
              · exact ⟨by omega, hg.1.1.2⟩
              · exact ih a.1 (by omega) hg.2 q hq
          exact this ws (-1) (by omega) hgood
        have hN : (numsA (natW ws)).length ≤ 64 * ws.length := by
          have hw : ∀ a r, (numsW a r).length ≤ 64 := by
            intro a r
            have : ∀ f n x, (Abs.bitsL f n x).length ≤ f := by
              intro f
              induction f with
              | zero => intro n x; simp [Abs.bitsL]
              | succ f ih => intro n x; unfold Abs.bitsL; (split; (simp only [List.length_cons]; have := ih (n + 1) (x / 2); omega); (have := ih (n + 1) (x / 2); omega))
            simpa [numsW] using this 64 0 r
          have : ∀ l : List (Nat × Nat), (numsA l).length ≤ 64 * l.length := by
            intro l
            induction l with
            | nil => simp [numsA]
            | cons p l ih =>
              have h3 : numsA (p :: l) = numsW p.1 p.2 ++ numsA l := by simp [numsA]
              rw [h3, List.length_append, List.length_cons]
              have := hw p.1 p.2
              omega
          have := this (natW ws)
          rw [hln] at this; exact this
        have hlist := list_in b off cap sa (natW ws) (by omega) (by omega) w (fun h => (hsa (by omega)).2) h0n (fun h => (hsa (by omega)).1)
          (fun j p hp => by
            obtain ⟨q, hq, rfl⟩ := hnat j p hp
            have hqm := List.mem_of_getElem? hq
            have := hcells j q hq
            have r1 := hrange q hqm
            have r2 := (hb1 q hqm).1
            simp only [Int.toNat_of_nonneg r1.1, Int.toNat_of_nonneg r2]
            exact this)
          (fun p hp => by
            obtain ⟨q, hq, rfl⟩ := List.mem_map.1 hp
            have r1 := hrange q hq
            have r2 := hb1 q hq
            exact ⟨by omega, by omega⟩)
          hT (fun w' hB => by
            have := check_calls (by omega) (htab w' hB) (hrep w' hB)
            rw [if_pos hgood, hv, wordsA_length] at this
            rw [hln]
            exact this)
        rw [hv, wordsA_length, ← hln]
        refine hlist.mono ?_
        rintro e w' ⟨u, rfl, hrow, hb⟩
        exact ⟨_, rfl, post_two hW hloc hb 0 (ownsRow_sl hrow hown)⟩
      · cases h2
    · rw [if_neg hgood] at h2
      split at h2
      case isFalse => cases h2
      rename_i hlw
      simp only [Option.some.injEq, Prod.mk.injEq] at h2
      obtain ⟨rfl, rfl⟩ := h2
      have hbad := list_bad cap (wordsA ws).length sa w (fun w' hB => by
        have := check_calls hlw (htab w' hB) (hrep w' hB)
        rw [if_neg hgood, hv] at this
        exact this)
      rw [hv]
      refine hbad.mono ?_
      rintro e w' ⟨rfl, hb⟩
      exact ⟨_, rfl, post_two hW hloc hb 8 (.nil _ _)⟩
  · cases h'
theorem list_ext : ExtOK Tryd.prog (EX extL) := by
  intro g args base gs rs gs' h hargs hbase heff
  have h' : (match extL g with | some k => k args base gs | none => none) = some (rs, gs') := h
  unfold extL at h'
  by_cases h8 : g = 8
  · subst h8
    rw [if_pos rfl] at h'
    exact list_sound args base gs rs gs' h' hargs hbase heff
  · rw [if_neg h8] at h'
    by_cases h39 : g = 39
    · subst h39
      rw [if_pos rfl] at h'
      exact clone_sound args base gs rs gs' h' hargs hbase heff
    · rw [if_neg h39] at h'
      by_cases h40 : g = 40
      · subst h40
        rw [if_pos rfl] at h'
        exact sort_sound args base gs rs gs' h' hargs hbase heff
      · rw [if_neg h40] at h'
        cases h'
end Go.Proofs.YtjcgaelibiiiiaaDoor
