/- Package disk: Files. -/
import Derived.Test.YtlopfabbjilpnaaGreatDoorDiskI
import Derived.Test.YtlopfabbjilpnaaGreatDoorRoundQ
import Derived.BigQuiet
import Derived.Deep.QuietTactic
set_option linter.unusedSimpArgs false
set_option linter.unusedVariables false
namespace Go.Proofs.YtlopfabbjilpnaaGreatDoor
open Go.RowKit Go.MapKept
attribute [local go_sem] Oper.semAt_some

def fileC (f : AFile) : List Value := [sv f.name, sv f.bytes, .int .i64 f.synced]
/-- A slice of files of the call's own. -/
def FS (base : Nat) (w : World) (v : Value) (l : List AFile) : Prop := w.ownsRow base 37 3 v l.length (l.flatMap fileC)
theorem FS_snoc {base : Nat} {w : World} {v : Value} {l : List AFile} {f : AFile} (h : w.ownsRow base 37 3 v (l.length + 1) (l.flatMap fileC ++ fileC f)) : FS base w v (l ++ [f]) := by
  unfold FS; simpa using h
theorem elF : El Tryz.prog 34 37 3 40 (.agg #[.string ⟨#[]⟩, .string ⟨#[]⟩, .int .i64 0]) := El.mk' Tryz.underlying34 (by kernel_rfl) rfl (by decide)

/-- append, not laid open. -/
@[irreducible] def appL (ts : Array TypeId) (ty : TypeId) (args : Array Value) : Sem Value := Builtin.append_ ts ty args
theorem app_lock (ts : Array TypeId) (ty : TypeId) (args : Array Value) : Builtin.append_ ts ty args = appL ts ty args := by unfold appL; rfl
theorem run_app1 {P : Program} {t e : TypeId} {size bytes : Nat} {z : Value} (E : El P t e size bytes z) (base : Nat) (ty : TypeId) (v : Value) (n : Nat) (xs : List Value) (news : Array Value) (T : TypeId) (w : World) (hown : w.ownsRow base e size v n xs)
    (hl : news.size = size) (h1 : ∀ u ∈ news.toList, u.oneCell' = true) (hbytes : (n + 1) * bytes ≤ 140737488355328) (h63 : n + 1 ≤ maxLen) (hbase : base ≤ w.heap.size) :
    ∃ v' w', (appL #[t, t] ty #[v, .slice (some ⟨w.heap.size, 0, none⟩) 1 1]).run P (w.alloc (.cells news T)) = .ok v' w' ∧ w'.ownsRow base e size v' (n + 1) (xs ++ news.toList) ∧ (w.alloc (.cells news T)).grownBy w' v.ownBlock := by
  obtain ⟨v', w', h2, h3, h4, _⟩ := run_app E base t ty v n xs (w.alloc (.cells news T)) (hown.alloc _) _ 1 news.toList (Src.ofSlice (e' := e) _ E.ht ⟨w.heap.size, 0, none⟩ 1 1 news.toList (by simp [hl]) (fun j u hu => by
    have := heap_alloc_new w (.cells news T)
    simp only [World.cell?, Addr.add_lit, this, Nat.zero_add, Option.isSome_none, Bool.false_eq_true, if_false]
    simpa using hu) h1) h63 hbytes (by simp; omega)
  exact ⟨v', w', by rw [← app_lock]; exact h2, h3, h4⟩
attribute [local go_sem ↓] app_lock

def RetFiles (w : World) (l : List AFile) (en : Ending) (w' : World) : Prop := ∃ v, en = .returned v ∧ FS w.heap.size w' v l ∧ Frm [] w w'

set_option maxRecDepth 100000 in
set_option maxHeartbeats 1000000 in
theorem Files_any (b : Nat) (D : ADisk) (F : List Nat) (w : World) (hD : DiskAt w b D F) (hk : ∀ f ∈ D.files, f.name.length ≤ 24) (hn : D.files.length ≤ 1000) :
    Calls Tryz.prog 16 #[.pointer (some ⟨b, 0, none⟩)] w (RetFiles w D.files) := by
  obtain ⟨m, es, clk, L, hd, rfl⟩ := hD
  obtain ⟨S, hS, hSD⟩ := order_exists hd.perm
  have hbl := lt_of_block hd.own
  have hml := lt_of_block hd.map
  have hSn : S.length ≤ 1000 := by have := congrArg List.length hSD; rw [List.length_map] at this; omega
  refine (callsIn_wide (n := 0)).1 ?_
  (refine callsIn_of_wp_marks Tryz.func16 rfl trivial ?_ rfl; simp only [Tryz.ntmps16, List.size_toArray, List.length_cons, List.length_nil, Nat.reduceAdd, Nat.reduceSub, Array.replicate_succ, Array.replicate_zero, List.push_toArray, List.append_toArray, List.nil_append, List.cons_append])
  gi_wp2_with (first | (refine ⟨trivial, rfl, ?_⟩; gi_at_call 52; refine (callsIn_wide.2 (sorted_any b _)).mono ?_; rintro e w5 ⟨rfl, rfl⟩))
  refine wpIn_named fun W5 hW5 => ?_
  have b0 : W5.heap[w.heap.size]? = some (.cells #[.slice none 0 0] 34 (0, 0)) := by rw [hW5]; simp [go_sem]
  have b1 : W5.heap[w.heap.size + 1]? = some (.cells #[.pointer (some ⟨b, 0, none⟩)] 27 (0, 0)) := by rw [hW5]; simp [go_sem]
  have hz : W5.heap.size = w.heap.size + 2 := by rw [hW5]; simp [go_sem]
  have hF : Frm [] w W5 := by
    rw [hW5]
    (repeat (first | (with_reducible exact Frm.refl _ _) | assumption | (with_reducible refine Frm.alloc ?_ _) | ((with_reducible refine Frm.setCell ?_ ?_ _); rotate_left; (first | (focus (left; simp; done)) | (focus (right; simp; done)) | (focus (right; simp; omega)))) | ((with_reducible refine Frm.put ?_ _ ?_); rotate_left; (first | (focus (left; simp; done)) | (focus (right; simp; done)) | (focus (right; simp; omega)))) | (with_reducible refine Frm.drew ?_) | (with_reducible refine Frm.drewN ?_ _)))
  clear hW5
  have hd5 := hd.frm hF (fun _ h => by cases h)
  refine wp_rangeZ (w0 := W5) (gf := 90) (lb := #[.pointer (some ⟨w.heap.size + 1, 0, none⟩)]) rfl (enters_of Tryz.func90 (by kernel_rfl) rfl)
    (sorted_seq (w.heap.size + 1) b m es clk L S D W5 b1 hd5 hS hSD hk hn [w.heap.size, W5.heap.size + 1] (by simp; omega) (by simp; omega)) (Frm.refl _ _) (fun _ => rfl) (by simp) (by simp; omega)
    (fun A B C h1 h2 h => h2 (h1 h)) ?_ ?_
    (fun z pre W => w.heap.size + 4 ≤ z ∧ (∃ v, W.heap[w.heap.size]? = some (.cells #[v] 34 (0, 0)) ∧ FS z W v (pre.map (·.1))) ∧ Frm [] w W) (fun _ _ _ => False) ?_ (fun _ _ _ _ _ h => h.elim) ?_ ?_ ?_ (fun _ _ _ _ h _ => h.elim)
  · rintro W o _ ⟨x, y, z, h⟩
    exact ⟨x, y, z, (World.putObj_heap_other (by omega)).trans h⟩
  · intro W W' hfin hz'
    exact keepLD_frm hfin hz' (by simp) (by simp)
  · rintro z pre A B hAB ⟨h4, ⟨v, hv, hown⟩, hf⟩
    exact ⟨h4, ⟨v, hAB.blk hv (by simp; omega), own_frm hown hAB (fun g hg => by have := (own_lt hown hg).1; simp; omega)⟩, hf.trans' hAB (by simp; omega)⟩
  · rintro z W hW h1 h2
    exact ⟨by omega, ⟨_, hW.blk b0 (by simp), World.ownsRow_nil _ _ _ _⟩, hF.trans hW⟩
  · rintro z pre ⟨f, c⟩ post W h2z hzW hx ⟨h4z, ⟨v, hv, hown⟩, hf⟩
    have hcL : (f, c) ∈ L := hS.mem_iff.1 (by rw [hx]; simp)
    have hc := hf.blk (hd.file _ hcL) (by simp)
    have hcl := lt_of_block (hd.file _ hcL)
    have hlen : pre.length < 1000 := by rw [hx] at hSn; simp at hSn; omega
    simp only [encK]
    have H4 := Lib.hid h4z
    clear h4z
    gi_wp2
    refine ⟨⟨rfl, rfl⟩, fun W₂ hzz hF2 => ?_⟩
    have hz2 : z ≤ W₂.heap.size := by omega
    have hz3 : w.heap.size + 3 < W₂.heap.size := by omega
    have hv2 := hF2.blk hv (by simp; omega)
    have hc2 := hF2.blk hc (by simp; omega)
    have hown2 := own_frm hown hF2 (fun g hg => by have := (own_lt hown hg).1; simp; omega)
    unfold FS at hown2
    rw [List.length_map] at hown2
    have hobl : ∀ g, v.ownBlock = some g → z ≤ g := fun g hg => (own_lt hown2 hg).1
    have hown3 : W₂.drew.ownsRow z 37 3 v pre.length ((pre.map (·.1)).flatMap fileC) := own_frm hown2 (Frm.refl [] W₂).drew (fun _ _ h => by cases h)
    obtain ⟨v4, W4, hrun, hv4, hg4⟩ := run_app1 elF z 34 v _ _ #[sv f.name, sv f.bytes, .int .i64 f.synced] 37 W₂.drew hown3 rfl (by simp [Value.oneCell']) (by omega) (by unfold maxLen; omega) hz2
    obtain ⟨g4, c4, rfl⟩ := ownsRow_succ hv4
    have hv5 := grown_blk1 hown3 hg4 (k := w.heap.size) hv2 (by omega)
    clear hzz
    rw [size_drew] at hrun
    change (appL _ _ _).run Tryz.prog ((W₂.alloc (.cells #[sv f.name, sv f.bytes, .int .i64 f.synced] 37)).drew) = _ at hrun
    have hZ := Lib.hid hzW
    have hZ2 := Lib.hid hz2
    have hZ3 := Lib.hid hz3
    have hBL := Lib.hid hbl
    have hML := Lib.hid hml
    have hCL := Lib.hid hcl
    clear hzW hz2 hz3 hbl hml hcl
    gi_wp2
    have hfin : KeepLD W5.heap.size W₂ (W4.setCell ⟨w.heap.size, 0, none⟩ (.slice (some ⟨g4, 0, none⟩) (pre.length + 1) c4)) ∧ KpG [w.heap.size, W5.heap.size + 1] (K0 b m) z W (W4.setCell ⟨w.heap.size, 0, none⟩ (.slice (some ⟨g4, 0, none⟩) (pre.length + 1) c4)) ∧
        ((w.heap.size + 4 ≤ z ∧ (∃ v, (W4.setCell ⟨w.heap.size, 0, none⟩ (.slice (some ⟨g4, 0, none⟩) (pre.length + 1) c4)).heap[w.heap.size]? = some (.cells #[v] 34 (0, 0)) ∧ FS z (W4.setCell ⟨w.heap.size, 0, none⟩ (.slice (some ⟨g4, 0, none⟩) (pre.length + 1) c4)) v ((pre ++ [(f, c)]).map (·.1))) ∧
          Frm [] w (W4.setCell ⟨w.heap.size, 0, none⟩ (.slice (some ⟨g4, 0, none⟩) (pre.length + 1) c4))) ∧ z ≤ (W4.setCell ⟨w.heap.size, 0, none⟩ (.slice (some ⟨g4, 0, none⟩) (pre.length + 1) c4)).heap.size) := by
      have z1 := hZ.out
      have z2 := hZ2.out
      have z3 := hZ3.out
      have z4 := hBL.out
      have z6 := H4.out
      have z5 := hg4.size
      have hg4l : z ≤ g4 := (own_lt hv4 rfl).1
      have hG : Frm (w.heap.size :: v.ownBlock.toList) W₂ (W4.setCell ⟨w.heap.size, 0, none⟩ (.slice (some ⟨g4, 0, none⟩) (pre.length + 1) c4)) :=
        ((((Frm.refl _ W₂).drew.alloc _).grown hg4 (fun k hk => .inl (by simp [hk])))).setCell (.inl (by simp)) _
      have hGz : ∀ x ∈ (w.heap.size :: v.ownBlock.toList), x = w.heap.size ∨ z ≤ x := fun x hx => by
        simp only [List.mem_cons, Option.mem_toList, Option.mem_def] at hx
        rcases hx with rfl | h
        · exact .inl rfl
        · exact .inr (hobl _ h)
      have hA : Frm (w.heap.size :: (W5.heap.size + 1) :: v.ownBlock.toList) W (W4.setCell ⟨w.heap.size, 0, none⟩ (.slice (some ⟨g4, 0, none⟩) (pre.length + 1) c4)) :=
        (hF2.mono (fun x hx => .inl (by simp at hx; simp [hx, hz]))).trans (hG.mono (fun x hx => .inl (by simp at hx ⊢; rcases hx with h | h <;> simp [h])))
      have hAz : ∀ x ∈ (w.heap.size :: (W5.heap.size + 1) :: v.ownBlock.toList), (x = w.heap.size ∨ x = W5.heap.size + 1) ∨ z ≤ x := fun x hx => by
        simp only [List.mem_cons, Option.mem_toList, Option.mem_def] at hx
        rcases hx with rfl | rfl | h
        · exact .inl (.inl rfl)
        · exact .inl (.inr rfl)
        · exact .inr (hobl _ h)
      refine ⟨keepLD_frm hG (by omega) (fun h => by have := hGz _ h; omega) (fun h => by have := hGz _ h; omega), KpG.of_frm hA z1 (fun x hx => by simpa using hAz x hx) ?_, ⟨H4.out, ⟨_, heap_setCell _ hv5, ?_⟩, hf.trans' hA (fun x hx => .inr (by have := hAz x hx; omega))⟩, Nat.le_trans z2 hG.size⟩
      · rintro ⟨x, y, u, h⟩
        exact ⟨x, y, u, hA.blk h (fun h => by have := hAz _ h; omega)⟩
      · rw [List.map_append]
        refine own_frm (F := [w.heap.size]) (FS_snoc (f := f) (by rw [List.length_map]; exact hv4)) ((Frm.refl _ W4).setCell (.inl (by simp)) _) (fun g hg => ?_)
        obtain rfl : g4 = g := by simpa [Value.ownBlock] using hg
        simp; omega
    rw [hz] at hfin
    refine wpIn_region_round rfl (by kernel_rfl) (by kernel_rfl) ?_
    refine wpAnyIn_take (i := 1) (v := ?_) rfl rfl (by kernel_rfl) (by kernel_rfl) (by kernel_rfl) (fun _ _ _ h => h) ⟨Or.inl ⟨by rfl, ?_⟩, fun _ => rfl⟩ ?_
    rotate_left
    · intro w; go_simp; all_goals (with_reducible rfl)
    refine wpAnyIn_take (i := 2) (v := ?_) rfl rfl (by kernel_rfl) (by kernel_rfl) (by kernel_rfl) (fun _ _ _ h => h) ⟨Or.inl ⟨by rfl, ?_⟩, fun _ => rfl⟩ ?_
    rotate_left
    · intro w; go_simp; all_goals (with_reducible rfl)
    refine wpAnyIn_take (i := 3) (v := ?_) rfl rfl (by kernel_rfl) (by kernel_rfl) (by kernel_rfl) (fun _ _ _ h => h) ⟨Or.inl ⟨by rfl, ?_⟩, fun _ => rfl⟩ ?_
    rotate_left
    · intro w; go_simp; all_goals (with_reducible rfl)
    refine wpAnyIn_take (i := 4) (v := ?_) rfl rfl (by kernel_rfl) (by kernel_rfl) (by kernel_rfl) (fun _ _ _ h => h) ⟨Or.inl ⟨by rfl, ?_⟩, fun _ => rfl⟩ ?_
    rotate_left
    · intro w; go_simp; all_goals (with_reducible rfl)
    refine wpAnyIn_take (i := 6) (v := ?_) rfl rfl (by kernel_rfl) (by kernel_rfl) (by kernel_rfl) (fun _ _ _ h => h) ⟨Or.inl ⟨by rfl, ?_⟩, fun _ => rfl⟩ ?_
    rotate_left
    · intro w; go_simp; all_goals (with_reducible rfl)
    refine wpAnyIn_take (i := 7) (v := ?_) rfl rfl (by kernel_rfl) (by kernel_rfl) (by kernel_rfl) (fun _ _ _ h => h) ⟨Or.inl ⟨by rfl, ?_⟩, fun _ => rfl⟩ ?_
    rotate_left
    · intro w; go_simp; all_goals (with_reducible rfl)
    refine wpAnyIn_take (i := 8) (v := ?_) rfl rfl (by kernel_rfl) (by kernel_rfl) (by kernel_rfl) (fun _ _ _ h => h) ⟨Or.inl ⟨by rfl, ?_⟩, fun _ => rfl⟩ ?_
    rotate_left
    · intro w; go_simp; all_goals (with_reducible rfl)
    refine wpAnyIn_ready (rs := [0, 5, 9]) (by kernel_rfl) (by simp) ?_
    refine AllReadyIn.cons rfl (fun K hK => ?_) ?_
    · go_simp
      refine hK _ _ ?_
      clear hK K
      refine wpAnyIn_ready (rs := [5, 9]) (by kernel_rfl) (by simp) ?_
      refine AllReadyIn.cons rfl (fun K hK => ?_) ?_
      · go_simp
        refine hK _ _ ?_
        clear hK K
        refine wpAnyIn_ready (rs := [9]) (by kernel_rfl) (by simp) ?_
        refine AllReadyIn.cons rfl (fun K hK => ?_) ?_
        · go_simp
          refine hK _ _ ?_
          clear hK K
          refine wpAnyIn_take (i := 10) (v := ?_) rfl rfl (by kernel_rfl) (by kernel_rfl) (by kernel_rfl) (fun _ _ _ h => h) ⟨Or.inl ⟨by rfl, ?_⟩, fun _ => rfl⟩ ?_
          rotate_left
          · intro w; go_simp; all_goals (with_reducible rfl)
          refine wpAnyIn_ready (rs := [11]) (by kernel_rfl) (by simp) ?_
          refine AllReadyIn.cons rfl (fun K hK => ?_) ?_
          · go_simp
            refine hK _ _ ?_
            clear hK K
            refine wpAnyIn_ready (rs := [12]) (by kernel_rfl) (by simp) ?_
            refine AllReadyIn.cons rfl (fun K hK => ?_) ?_
            · go_simp
              refine hK _ _ ?_
              clear hK K
              refine wpAnyIn_ready (rs := [13]) (by kernel_rfl) (by simp) ?_
              refine AllReadyIn.cons rfl (fun K hK => ?_) ?_
              · go_simp
                refine hK _ _ ?_
                clear hK K
                refine wpAnyIn_done (by kernel_rfl) ?_ _
                gi_wp2
                exact hfin
              exact AllReadyIn.nil
            exact AllReadyIn.nil
          exact AllReadyIn.nil
        exact AllReadyIn.nil
      refine AllReadyIn.cons rfl (fun K hK => ?_) ?_
      · go_simp
        refine hK _ _ ?_
        clear hK K
        refine wpAnyIn_ready (rs := [5]) (by kernel_rfl) (by simp) ?_
        refine AllReadyIn.cons rfl (fun K hK => ?_) ?_
        · go_simp
          refine hK _ _ ?_
          clear hK K
          refine wpAnyIn_take (i := 10) (v := ?_) rfl rfl (by kernel_rfl) (by kernel_rfl) (by kernel_rfl) (fun _ _ _ h => h) ⟨Or.inl ⟨by rfl, ?_⟩, fun _ => rfl⟩ ?_
          rotate_left
          · intro w; go_simp; all_goals (with_reducible rfl)
          refine wpAnyIn_ready (rs := [11]) (by kernel_rfl) (by simp) ?_
          refine AllReadyIn.cons rfl (fun K hK => ?_) ?_
          · go_simp
            refine hK _ _ ?_
            clear hK K
            refine wpAnyIn_ready (rs := [12]) (by kernel_rfl) (by simp) ?_
            refine AllReadyIn.cons rfl (fun K hK => ?_) ?_
            · go_simp
              refine hK _ _ ?_
              clear hK K
              refine wpAnyIn_ready (rs := [13]) (by kernel_rfl) (by simp) ?_
              refine AllReadyIn.cons rfl (fun K hK => ?_) ?_
              · go_simp
                refine hK _ _ ?_
                clear hK K
                refine wpAnyIn_done (by kernel_rfl) ?_ _
                gi_wp2
                exact hfin
              exact AllReadyIn.nil
            exact AllReadyIn.nil
          exact AllReadyIn.nil
        exact AllReadyIn.nil
      exact AllReadyIn.nil
    refine AllReadyIn.cons rfl (fun K hK => ?_) ?_
    · go_simp
      refine hK _ _ ?_
      clear hK K
      refine wpAnyIn_ready (rs := [0, 9]) (by kernel_rfl) (by simp) ?_
      refine AllReadyIn.cons rfl (fun K hK => ?_) ?_
      · go_simp
        refine hK _ _ ?_
        clear hK K
        refine wpAnyIn_ready (rs := [9]) (by kernel_rfl) (by simp) ?_
        refine AllReadyIn.cons rfl (fun K hK => ?_) ?_
        · go_simp
          refine hK _ _ ?_
          clear hK K
          refine wpAnyIn_take (i := 10) (v := ?_) rfl rfl (by kernel_rfl) (by kernel_rfl) (by kernel_rfl) (fun _ _ _ h => h) ⟨Or.inl ⟨by rfl, ?_⟩, fun _ => rfl⟩ ?_
          rotate_left
          · intro w; go_simp; all_goals (with_reducible rfl)
          refine wpAnyIn_ready (rs := [11]) (by kernel_rfl) (by simp) ?_
          refine AllReadyIn.cons rfl (fun K hK => ?_) ?_
          · go_simp
            refine hK _ _ ?_
            clear hK K
            refine wpAnyIn_ready (rs := [12]) (by kernel_rfl) (by simp) ?_
            refine AllReadyIn.cons rfl (fun K hK => ?_) ?_
            · go_simp
              refine hK _ _ ?_
              clear hK K
              refine wpAnyIn_ready (rs := [13]) (by kernel_rfl) (by simp) ?_
              refine AllReadyIn.cons rfl (fun K hK => ?_) ?_
              · go_simp
                refine hK _ _ ?_
                clear hK K
                refine wpAnyIn_done (by kernel_rfl) ?_ _
                gi_wp2
                exact hfin
              exact AllReadyIn.nil
            exact AllReadyIn.nil
          exact AllReadyIn.nil
        exact AllReadyIn.nil
      refine AllReadyIn.cons rfl (fun K hK => ?_) ?_
      · go_simp
        refine hK _ _ ?_
        clear hK K
        refine wpAnyIn_take (i := 10) (v := ?_) rfl rfl (by kernel_rfl) (by kernel_rfl) (by kernel_rfl) (fun _ _ _ h => h) ⟨Or.inl ⟨by rfl, ?_⟩, fun _ => rfl⟩ ?_
        rotate_left
        · intro w; go_simp; all_goals (with_reducible rfl)
        refine wpAnyIn_ready (rs := [0, 11]) (by kernel_rfl) (by simp) ?_
        refine AllReadyIn.cons rfl (fun K hK => ?_) ?_
        · go_simp
          refine hK _ _ ?_
          clear hK K
          refine wpAnyIn_ready (rs := [11]) (by kernel_rfl) (by simp) ?_
          refine AllReadyIn.cons rfl (fun K hK => ?_) ?_
          · go_simp
            refine hK _ _ ?_
            clear hK K
            refine wpAnyIn_ready (rs := [12]) (by kernel_rfl) (by simp) ?_
            refine AllReadyIn.cons rfl (fun K hK => ?_) ?_
            · go_simp
              refine hK _ _ ?_
              clear hK K
              refine wpAnyIn_ready (rs := [13]) (by kernel_rfl) (by simp) ?_
              refine AllReadyIn.cons rfl (fun K hK => ?_) ?_
              · go_simp
                refine hK _ _ ?_
                clear hK K
                refine wpAnyIn_done (by kernel_rfl) ?_ _
                gi_wp2
                exact hfin
              exact AllReadyIn.nil
            exact AllReadyIn.nil
          exact AllReadyIn.nil
        refine AllReadyIn.cons rfl (fun K hK => ?_) ?_
        · go_simp
          refine hK _ _ ?_
          clear hK K
          refine wpAnyIn_ready (rs := [0]) (by kernel_rfl) (by simp) ?_
          refine AllReadyIn.cons rfl (fun K hK => ?_) ?_
          · go_simp
            refine hK _ _ ?_
            clear hK K
            refine wpAnyIn_ready (rs := [12]) (by kernel_rfl) (by simp) ?_
            refine AllReadyIn.cons rfl (fun K hK => ?_) ?_
            · go_simp
              refine hK _ _ ?_
              clear hK K
              refine wpAnyIn_ready (rs := [13]) (by kernel_rfl) (by simp) ?_
              refine AllReadyIn.cons rfl (fun K hK => ?_) ?_
              · go_simp
                refine hK _ _ ?_
                clear hK K
                refine wpAnyIn_done (by kernel_rfl) ?_ _
                gi_wp2
                exact hfin
              exact AllReadyIn.nil
            exact AllReadyIn.nil
          exact AllReadyIn.nil
        exact AllReadyIn.nil
      exact AllReadyIn.nil
    refine AllReadyIn.cons rfl (fun K hK => ?_) ?_
    · go_simp
      refine hK _ _ ?_
      clear hK K
      refine wpAnyIn_ready (rs := [0, 5]) (by kernel_rfl) (by simp) ?_
      refine AllReadyIn.cons rfl (fun K hK => ?_) ?_
      · go_simp
        refine hK _ _ ?_
        clear hK K
        refine wpAnyIn_ready (rs := [5]) (by kernel_rfl) (by simp) ?_
        refine AllReadyIn.cons rfl (fun K hK => ?_) ?_
        · go_simp
          refine hK _ _ ?_
          clear hK K
          refine wpAnyIn_take (i := 10) (v := ?_) rfl rfl (by kernel_rfl) (by kernel_rfl) (by kernel_rfl) (fun _ _ _ h => h) ⟨Or.inl ⟨by rfl, ?_⟩, fun _ => rfl⟩ ?_
          rotate_left
          · intro w; go_simp; all_goals (with_reducible rfl)
          refine wpAnyIn_ready (rs := [11]) (by kernel_rfl) (by simp) ?_
          refine AllReadyIn.cons rfl (fun K hK => ?_) ?_
          · go_simp
            refine hK _ _ ?_
            clear hK K
            refine wpAnyIn_ready (rs := [12]) (by kernel_rfl) (by simp) ?_
            refine AllReadyIn.cons rfl (fun K hK => ?_) ?_
            · go_simp
              refine hK _ _ ?_
              clear hK K
              refine wpAnyIn_ready (rs := [13]) (by kernel_rfl) (by simp) ?_
              refine AllReadyIn.cons rfl (fun K hK => ?_) ?_
              · go_simp
                refine hK _ _ ?_
                clear hK K
                refine wpAnyIn_done (by kernel_rfl) ?_ _
                gi_wp2
                exact hfin
              exact AllReadyIn.nil
            exact AllReadyIn.nil
          exact AllReadyIn.nil
        exact AllReadyIn.nil
      refine AllReadyIn.cons rfl (fun K hK => ?_) ?_
      · go_simp
        refine hK _ _ ?_
        clear hK K
        refine wpAnyIn_take (i := 10) (v := ?_) rfl rfl (by kernel_rfl) (by kernel_rfl) (by kernel_rfl) (fun _ _ _ h => h) ⟨Or.inl ⟨by rfl, ?_⟩, fun _ => rfl⟩ ?_
        rotate_left
        · intro w; go_simp; all_goals (with_reducible rfl)
        refine wpAnyIn_ready (rs := [0, 11]) (by kernel_rfl) (by simp) ?_
        refine AllReadyIn.cons rfl (fun K hK => ?_) ?_
        · go_simp
          refine hK _ _ ?_
          clear hK K
          refine wpAnyIn_ready (rs := [11]) (by kernel_rfl) (by simp) ?_
          refine AllReadyIn.cons rfl (fun K hK => ?_) ?_
          · go_simp
            refine hK _ _ ?_
            clear hK K
            refine wpAnyIn_ready (rs := [12]) (by kernel_rfl) (by simp) ?_
            refine AllReadyIn.cons rfl (fun K hK => ?_) ?_
            · go_simp
              refine hK _ _ ?_
              clear hK K
              refine wpAnyIn_ready (rs := [13]) (by kernel_rfl) (by simp) ?_
              refine AllReadyIn.cons rfl (fun K hK => ?_) ?_
              · go_simp
                refine hK _ _ ?_
                clear hK K
                refine wpAnyIn_done (by kernel_rfl) ?_ _
                gi_wp2
                exact hfin
              exact AllReadyIn.nil
            exact AllReadyIn.nil
          exact AllReadyIn.nil
        refine AllReadyIn.cons rfl (fun K hK => ?_) ?_
        · go_simp
          refine hK _ _ ?_
          clear hK K
          refine wpAnyIn_ready (rs := [0]) (by kernel_rfl) (by simp) ?_
          refine AllReadyIn.cons rfl (fun K hK => ?_) ?_
          · go_simp
            refine hK _ _ ?_
            clear hK K
            refine wpAnyIn_ready (rs := [12]) (by kernel_rfl) (by simp) ?_
            refine AllReadyIn.cons rfl (fun K hK => ?_) ?_
            · go_simp
              refine hK _ _ ?_
              clear hK K
              refine wpAnyIn_ready (rs := [13]) (by kernel_rfl) (by simp) ?_
              refine AllReadyIn.cons rfl (fun K hK => ?_) ?_
              · go_simp
                refine hK _ _ ?_
                clear hK K
                refine wpAnyIn_done (by kernel_rfl) ?_ _
                gi_wp2
                exact hfin
              exact AllReadyIn.nil
            exact AllReadyIn.nil
          exact AllReadyIn.nil
        exact AllReadyIn.nil
      exact AllReadyIn.nil
    exact AllReadyIn.nil
  · rintro z W2 W' W'' h2z ⟨h4z, ⟨v, hv, hown⟩, hf⟩ hfin hA hz' hD
    simp only [Exit.inBlock, Exit.then]
    have hv1 := hA.blk (hfin.blk hv (by simp)) (by simp; omega)
    have hsz : W5.heap.size < W''.heap.size := lt_of_block hD
    gi_wp2
    have hfr : Frm [] w (W''.putObj W5.heap.size (.deferred none)) :=
      ((hf.trans' hfin (by simp)).trans' hA (by simp; omega)).trans' (frm_putObj _ _ _) (by simp; omega)
    refine leave_one (D := W5.heap.size) rfl hD (by simp [results, Tryz.results16, go_sem]) ⟨v, rfl, ?_, hfr⟩
    have hown1 : FS z W'' v (S.map (·.1)) := own_frm (own_frm hown hfin (fun g hg => by simp)) hA (fun g hg => by have := (own_lt hown hg).1; simp; omega)
    rw [← hSD]
    refine own_mono (own_frm hown1 (frm_putObj W'' W5.heap.size (.deferred none)) (fun g hg => ?_)) (by omega)
    have := (own_lt hown hg).1
    simp; omega
end Go.Proofs.YtlopfabbjilpnaaGreatDoor
