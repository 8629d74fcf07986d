/- The types of the program as Lean types, how they lie in cells, and what == says of them; by a program of this project (gen.py). -/
import Derived.Test.YtnojjenpggdadaaDoorO
import Derived.Test.YtnojjenpggdadaaDoorProg
set_option linter.unusedVariables false
set_option linter.unusedSimpArgs false
namespace Go.Proofs.YtnojjenpggdadaaDoor
open E Go.RowKit
theorem infoT3_is : (Tryd.prog.info? 3).isSome = true := by kernel_rfl
noncomputable def infoT3_v : TypeInfo := (Tryd.prog.info? 3).get infoT3_is
theorem infoT3 : Tryd.prog.info? 3 = some infoT3_v := (Option.some_get _).symm
theorem infoT5_is : (Tryd.prog.info? 5).isSome = true := by kernel_rfl
noncomputable def infoT5_v : TypeInfo := (Tryd.prog.info? 5).get infoT5_is
theorem infoT5 : Tryd.prog.info? 5 = some infoT5_v := (Option.some_get _).symm
theorem infoT9_is : (Tryd.prog.info? 9).isSome = true := by kernel_rfl
noncomputable def infoT9_v : TypeInfo := (Tryd.prog.info? 9).get infoT9_is
theorem infoT9 : Tryd.prog.info? 9 = some infoT9_v := (Option.some_get _).symm
theorem infoT22_is : (Tryd.prog.info? 22).isSome = true := by kernel_rfl
noncomputable def infoT22_v : TypeInfo := (Tryd.prog.info? 22).get infoT22_is
theorem infoT22 : Tryd.prog.info? 22 = some infoT22_v := (Option.some_get _).symm
structure S_census_Count where
  f_Kinds : (Vector Int 7)
  f_Bytes : (Vector Int 7)
  f_Whys : (Vector Int 21)
  deriving DecidableEq, Inhabited
def c_census_Count : Cd S_census_Count := ⟨35, fun x => Cd.cs (cVec (cInt .i64) 7 (by decide)) x.f_Kinds ++ (Cd.cs (cVec (cInt .i64) 7 (by decide)) x.f_Bytes ++ (Cd.cs (cVec (cInt .i64) 21 (by decide)) x.f_Whys ++ [])), fun x => by simp only [List.length_append, Cd.len, List.length_nil] <;> rfl, fun x v hv => by
  simp only [List.mem_append, List.not_mem_nil, or_false] at hv
  rcases hv with hv | hv | hv
  all_goals exact Cd.one _ _ _ hv, by decide⟩
def ok_census_Count (x : S_census_Count) : Prop := (fun v : (Vector Int 7) => ∀ x ∈ v.toList, (fun n : Int => (Lit.int .i64 n).wf = true) x) x.f_Kinds ∧ (fun v : (Vector Int 7) => ∀ x ∈ v.toList, (fun n : Int => (Lit.int .i64 n).wf = true) x) x.f_Bytes ∧ (fun v : (Vector Int 21) => ∀ x ∈ v.toList, (fun n : Int => (Lit.int .i64 n).wf = true) x) x.f_Whys
theorem c_census_Count_f_Kinds (x : S_census_Count) : Lens (c_census_Count.cs x) 0 (cVec (cInt .i64) 7 (by decide)) x.f_Kinds (fun z => c_census_Count.cs { x with f_Kinds := z }) :=
  ⟨[], Cd.cs (cVec (cInt .i64) 7 (by decide)) x.f_Bytes ++ (Cd.cs (cVec (cInt .i64) 21 (by decide)) x.f_Whys ++ []), by simp [c_census_Count], by simp only [List.length_append, Cd.len, List.length_nil] <;> rfl, fun z => by simp [c_census_Count]⟩
theorem c_census_Count_f_Bytes (x : S_census_Count) : Lens (c_census_Count.cs x) 7 (cVec (cInt .i64) 7 (by decide)) x.f_Bytes (fun z => c_census_Count.cs { x with f_Bytes := z }) :=
  ⟨Cd.cs (cVec (cInt .i64) 7 (by decide)) x.f_Kinds ++ [], Cd.cs (cVec (cInt .i64) 21 (by decide)) x.f_Whys ++ [], by simp [c_census_Count], by simp only [List.length_append, Cd.len, List.length_nil] <;> rfl, fun z => by simp [c_census_Count]⟩
theorem c_census_Count_f_Whys (x : S_census_Count) : Lens (c_census_Count.cs x) 14 (cVec (cInt .i64) 21 (by decide)) x.f_Whys (fun z => c_census_Count.cs { x with f_Whys := z }) :=
  ⟨Cd.cs (cVec (cInt .i64) 7 (by decide)) x.f_Kinds ++ (Cd.cs (cVec (cInt .i64) 7 (by decide)) x.f_Bytes ++ []), [], by simp [c_census_Count], by simp only [List.length_append, Cd.len, List.length_nil] <;> rfl, fun z => by simp [c_census_Count]⟩
theorem eq_census_Count_37 : Eqs Tryd.prog 37 c_census_Count true 2 := fun d hd x y w => by
  obtain ⟨d, rfl⟩ : ∃ e, d = e + 1 := ⟨d - 1, by omega⟩
  refine (run_eq_struct (xs := (c_census_Count.cs x).toArray) (ys := (c_census_Count.cs y).toArray) Tryd.underlying37 Tryd.stoodInHeld37).trans ?_
  refine Eq.trans (eqf_cons (c_census_Count_f_Kinds x) (c_census_Count_f_Kinds y) (by rfl) (by rfl) Tryd.isAgg34 Tryd.sizeOf34 (.inl rfl) (eqs_vec Tryd.underlying34 infoT3 Tryd.sizeOf3 Tryd.isAgg3 (.inr rfl) (eqs_int Tryd.underlying3)) (by omega) (eqf_cons (c_census_Count_f_Bytes x) (c_census_Count_f_Bytes y) (by rfl) (by rfl) Tryd.isAgg34 Tryd.sizeOf34 (.inl rfl) (eqs_vec Tryd.underlying34 infoT3 Tryd.sizeOf3 Tryd.isAgg3 (.inr rfl) (eqs_int Tryd.underlying3)) (by omega) (eqf_cons (c_census_Count_f_Whys x) (c_census_Count_f_Whys y) (by rfl) (by rfl) Tryd.isAgg35 Tryd.sizeOf35 (.inl rfl) (eqs_vec Tryd.underlying35 infoT3 Tryd.sizeOf3 Tryd.isAgg3 (.inr rfl) (eqs_int Tryd.underlying3)) (by omega) eqf_nil))) ?_
  congr 1
  cases x; cases y
  rw [Bool.eq_iff_iff]; simp
theorem opn_census_Count_37 : Opn Tryd.prog 37 c_census_Count ok_census_Count := fun enc w base spare held fuel cs d ps hd => by
  cases fuel with
  | zero => exact (opn_zero hd).elim
  | succ fuel =>
    obtain ⟨hlen, hf⟩ := opn_fields Tryd.underlying37 hd
    rw [show Tryd.prog.cellsOf 37 = 35 from by kernel_rfl] at hlen
    obtain ⟨d0, p0, h0⟩ : ∃ d' p', DataW.trod enc Tryd.prog w base spare held fuel 34 ((cs.drop 0).take (Tryd.prog.cellsOf 34)) = some (d', p') := hf 0 _ rfl
    obtain ⟨x0, e0, o0⟩ := (opn_vec Tryd.underlying34 (by kernel_rfl) (by kernel_rfl) (opn_int Tryd.underlying3)) enc w base spare held fuel _ _ _ h0
    rw [show Tryd.prog.cellsOf 34 = 7 from by kernel_rfl] at e0
    obtain ⟨d1, p1, h1⟩ : ∃ d' p', DataW.trod enc Tryd.prog w base spare held fuel 34 ((cs.drop 7).take (Tryd.prog.cellsOf 34)) = some (d', p') := hf 1 _ rfl
    obtain ⟨x1, e1, o1⟩ := (opn_vec Tryd.underlying34 (by kernel_rfl) (by kernel_rfl) (opn_int Tryd.underlying3)) enc w base spare held fuel _ _ _ h1
    rw [show Tryd.prog.cellsOf 34 = 7 from by kernel_rfl] at e1
    obtain ⟨d2, p2, h2⟩ : ∃ d' p', DataW.trod enc Tryd.prog w base spare held fuel 35 ((cs.drop 14).take (Tryd.prog.cellsOf 35)) = some (d', p') := hf 2 _ rfl
    obtain ⟨x2, e2, o2⟩ := (opn_vec Tryd.underlying35 (by kernel_rfl) (by kernel_rfl) (opn_int Tryd.underlying3)) enc w base spare held fuel _ _ _ h2
    rw [show Tryd.prog.cellsOf 35 = 21 from by kernel_rfl] at e2
    refine ⟨⟨x0, x1, x2⟩, ?_, o0, o1, o2⟩
    show cs = Cd.cs (cVec (cInt .i64) 7 (by decide)) x0 ++ (Cd.cs (cVec (cInt .i64) 7 (by decide)) x1 ++ (Cd.cs (cVec (cInt .i64) 21 (by decide)) x2 ++ []))
    rw [← e0, ← e1, ← e2]
    exact (split_cons (l := cs) (o := 0) (k := 7) (split_cons (l := cs) (o := 7) (k := 7) (split_cons (l := cs) (o := 14) (k := 21) (split_nil (l := cs) (o := 35) (by omega)))))
theorem places_census_Count_37 : ∀ w, ((#[{ name := "Kinds", type := 34, offset := 0, embedded := false, tag := "", pkgPath := "", byteOffset := 0 }, { name := "Bytes", type := 34, offset := 7, embedded := false, tag := "", pkgPath := "", byteOffset := 56 }, { name := "Whys", type := 35, offset := 14, embedded := false, tag := "", pkgPath := "", byteOffset := 112 }] : Array Field).mapM fun f => (do pure (f.offset, ← sizeOf f.type) : Sem (Nat × Nat))).run Tryd.prog w = .ok #[(0, 7), (7, 7), (14, 21)] w := fun w => by
  simp [Tryd.sizeOf34 w, Tryd.sizeOf34 w, Tryd.sizeOf35 w]
structure S_api_Addr where
  f_V : Int
  f_B : (Vector Int 16)
  deriving DecidableEq, Inhabited
def c_api_Addr : Cd S_api_Addr := ⟨17, fun x => Cd.cs (cInt .i64) x.f_V ++ (Cd.cs (cVec (cInt .u8) 16 (by decide)) x.f_B ++ []), fun x => by simp only [List.length_append, Cd.len, List.length_nil] <;> rfl, fun x v hv => by
  simp only [List.mem_append, List.not_mem_nil, or_false] at hv
  rcases hv with hv | hv
  all_goals exact Cd.one _ _ _ hv, by decide⟩
def ok_api_Addr (x : S_api_Addr) : Prop := (fun n : Int => (Lit.int .i64 n).wf = true) x.f_V ∧ (fun v : (Vector Int 16) => ∀ x ∈ v.toList, (fun n : Int => (Lit.int .u8 n).wf = true) x) x.f_B
theorem c_api_Addr_f_V (x : S_api_Addr) : Lens (c_api_Addr.cs x) 0 (cInt .i64) x.f_V (fun z => c_api_Addr.cs { x with f_V := z }) :=
  ⟨[], Cd.cs (cVec (cInt .u8) 16 (by decide)) x.f_B ++ [], by simp [c_api_Addr], by simp only [List.length_append, Cd.len, List.length_nil] <;> rfl, fun z => by simp [c_api_Addr]⟩
theorem c_api_Addr_f_B (x : S_api_Addr) : Lens (c_api_Addr.cs x) 1 (cVec (cInt .u8) 16 (by decide)) x.f_B (fun z => c_api_Addr.cs { x with f_B := z }) :=
  ⟨Cd.cs (cInt .i64) x.f_V ++ [], [], by simp [c_api_Addr], by simp only [List.length_append, Cd.len, List.length_nil] <;> rfl, fun z => by simp [c_api_Addr]⟩
theorem eq_api_Addr_54 : Eqs Tryd.prog 54 c_api_Addr true 2 := fun d hd x y w => by
  obtain ⟨d, rfl⟩ : ∃ e, d = e + 1 := ⟨d - 1, by omega⟩
  refine (run_eq_struct (xs := (c_api_Addr.cs x).toArray) (ys := (c_api_Addr.cs y).toArray) Tryd.underlying54 Tryd.stoodInHeld54).trans ?_
  refine Eq.trans (eqf_cons (c_api_Addr_f_V x) (c_api_Addr_f_V y) (by rfl) (by rfl) Tryd.isAgg3 Tryd.sizeOf3 (.inr rfl) (eqs_int Tryd.underlying3) (by omega) (eqf_cons (c_api_Addr_f_B x) (c_api_Addr_f_B y) (by rfl) (by rfl) Tryd.isAgg52 Tryd.sizeOf52 (.inl rfl) (eqs_vec Tryd.underlying52 infoT5 Tryd.sizeOf5 Tryd.isAgg5 (.inr rfl) (eqs_int Tryd.underlying5)) (by omega) eqf_nil)) ?_
  congr 1
  cases x; cases y
  rw [Bool.eq_iff_iff]; simp
theorem opn_api_Addr_54 : Opn Tryd.prog 54 c_api_Addr ok_api_Addr := fun enc w base spare held fuel cs d ps hd => by
  cases fuel with
  | zero => exact (opn_zero hd).elim
  | succ fuel =>
    obtain ⟨hlen, hf⟩ := opn_fields Tryd.underlying54 hd
    rw [show Tryd.prog.cellsOf 54 = 17 from by kernel_rfl] at hlen
    obtain ⟨d0, p0, h0⟩ : ∃ d' p', DataW.trod enc Tryd.prog w base spare held fuel 3 ((cs.drop 0).take (Tryd.prog.cellsOf 3)) = some (d', p') := hf 0 _ rfl
    obtain ⟨x0, e0, o0⟩ := (opn_int Tryd.underlying3) enc w base spare held fuel _ _ _ h0
    rw [show Tryd.prog.cellsOf 3 = 1 from by kernel_rfl] at e0
    obtain ⟨d1, p1, h1⟩ : ∃ d' p', DataW.trod enc Tryd.prog w base spare held fuel 52 ((cs.drop 1).take (Tryd.prog.cellsOf 52)) = some (d', p') := hf 1 _ rfl
    obtain ⟨x1, e1, o1⟩ := (opn_vec Tryd.underlying52 (by kernel_rfl) (by kernel_rfl) (opn_int Tryd.underlying5)) enc w base spare held fuel _ _ _ h1
    rw [show Tryd.prog.cellsOf 52 = 16 from by kernel_rfl] at e1
    refine ⟨⟨x0, x1⟩, ?_, o0, o1⟩
    show cs = Cd.cs (cInt .i64) x0 ++ (Cd.cs (cVec (cInt .u8) 16 (by decide)) x1 ++ [])
    rw [← e0, ← e1]
    exact (split_cons (l := cs) (o := 0) (k := 1) (split_cons (l := cs) (o := 1) (k := 16) (split_nil (l := cs) (o := 17) (by omega))))
theorem places_api_Addr_54 : ∀ w, ((#[{ name := "V", type := 3, offset := 0, embedded := false, tag := "", pkgPath := "", byteOffset := 0 }, { name := "B", type := 52, offset := 1, embedded := false, tag := "", pkgPath := "", byteOffset := 8 }] : Array Field).mapM fun f => (do pure (f.offset, ← sizeOf f.type) : Sem (Nat × Nat))).run Tryd.prog w = .ok #[(0, 1), (1, 16)] w := fun w => by
  simp [Tryd.sizeOf3 w, Tryd.sizeOf52 w]
structure S_api_Endpoint where
  f_A : S_api_Addr
  f_Port : Int
  deriving DecidableEq, Inhabited
def c_api_Endpoint : Cd S_api_Endpoint := ⟨18, fun x => Cd.cs c_api_Addr x.f_A ++ (Cd.cs (cInt .i64) x.f_Port ++ []), fun x => by simp only [List.length_append, Cd.len, List.length_nil] <;> rfl, fun x v hv => by
  simp only [List.mem_append, List.not_mem_nil, or_false] at hv
  rcases hv with hv | hv
  all_goals exact Cd.one _ _ _ hv, by decide⟩
def ok_api_Endpoint (x : S_api_Endpoint) : Prop := ok_api_Addr x.f_A ∧ (fun n : Int => (Lit.int .i64 n).wf = true) x.f_Port
theorem c_api_Endpoint_f_A (x : S_api_Endpoint) : Lens (c_api_Endpoint.cs x) 0 c_api_Addr x.f_A (fun z => c_api_Endpoint.cs { x with f_A := z }) :=
  ⟨[], Cd.cs (cInt .i64) x.f_Port ++ [], by simp [c_api_Endpoint], by simp only [List.length_append, Cd.len, List.length_nil] <;> rfl, fun z => by simp [c_api_Endpoint]⟩
theorem c_api_Endpoint_f_Port (x : S_api_Endpoint) : Lens (c_api_Endpoint.cs x) 17 (cInt .i64) x.f_Port (fun z => c_api_Endpoint.cs { x with f_Port := z }) :=
  ⟨Cd.cs c_api_Addr x.f_A ++ [], [], by simp [c_api_Endpoint], by simp only [List.length_append, Cd.len, List.length_nil] <;> rfl, fun z => by simp [c_api_Endpoint]⟩
theorem eq_api_Endpoint_56 : Eqs Tryd.prog 56 c_api_Endpoint true 3 := fun d hd x y w => by
  obtain ⟨d, rfl⟩ : ∃ e, d = e + 1 := ⟨d - 1, by omega⟩
  refine (run_eq_struct (xs := (c_api_Endpoint.cs x).toArray) (ys := (c_api_Endpoint.cs y).toArray) Tryd.underlying56 Tryd.stoodInHeld56).trans ?_
  refine Eq.trans (eqf_cons (c_api_Endpoint_f_A x) (c_api_Endpoint_f_A y) (by rfl) (by rfl) Tryd.isAgg54 Tryd.sizeOf54 (.inl rfl) (eq_api_Addr_54) (by omega) (eqf_cons (c_api_Endpoint_f_Port x) (c_api_Endpoint_f_Port y) (by rfl) (by rfl) Tryd.isAgg3 Tryd.sizeOf3 (.inr rfl) (eqs_int Tryd.underlying3) (by omega) eqf_nil)) ?_
  congr 1
  cases x; cases y
  rw [Bool.eq_iff_iff]; simp
theorem opn_api_Endpoint_56 : Opn Tryd.prog 56 c_api_Endpoint ok_api_Endpoint := fun enc w base spare held fuel cs d ps hd => by
  cases fuel with
  | zero => exact (opn_zero hd).elim
  | succ fuel =>
    obtain ⟨hlen, hf⟩ := opn_fields Tryd.underlying56 hd
    rw [show Tryd.prog.cellsOf 56 = 18 from by kernel_rfl] at hlen
    obtain ⟨d0, p0, h0⟩ : ∃ d' p', DataW.trod enc Tryd.prog w base spare held fuel 54 ((cs.drop 0).take (Tryd.prog.cellsOf 54)) = some (d', p') := hf 0 _ rfl
    obtain ⟨x0, e0, o0⟩ := (opn_api_Addr_54) enc w base spare held fuel _ _ _ h0
    rw [show Tryd.prog.cellsOf 54 = 17 from by kernel_rfl] at e0
    obtain ⟨d1, p1, h1⟩ : ∃ d' p', DataW.trod enc Tryd.prog w base spare held fuel 3 ((cs.drop 17).take (Tryd.prog.cellsOf 3)) = some (d', p') := hf 1 _ rfl
    obtain ⟨x1, e1, o1⟩ := (opn_int Tryd.underlying3) enc w base spare held fuel _ _ _ h1
    rw [show Tryd.prog.cellsOf 3 = 1 from by kernel_rfl] at e1
    refine ⟨⟨x0, x1⟩, ?_, o0, o1⟩
    show cs = Cd.cs c_api_Addr x0 ++ (Cd.cs (cInt .i64) x1 ++ [])
    rw [← e0, ← e1]
    exact (split_cons (l := cs) (o := 0) (k := 17) (split_cons (l := cs) (o := 17) (k := 1) (split_nil (l := cs) (o := 18) (by omega))))
theorem places_api_Endpoint_56 : ∀ w, ((#[{ name := "A", type := 54, offset := 0, embedded := false, tag := "", pkgPath := "", byteOffset := 0 }, { name := "Port", type := 3, offset := 17, embedded := false, tag := "", pkgPath := "", byteOffset := 24 }] : Array Field).mapM fun f => (do pure (f.offset, ← sizeOf f.type) : Sem (Nat × Nat))).run Tryd.prog w = .ok #[(0, 17), (17, 1)] w := fun w => by
  simp [Tryd.sizeOf54 w, Tryd.sizeOf3 w]
structure S_api_Event where
  f_Kind : Int
  f_Bytes : Hd
  f_To : S_api_Endpoint
  f_Key : (Vector Int 32)
  f_Why : Int
  deriving DecidableEq, Inhabited
def c_api_Event : Cd S_api_Event := ⟨53, fun x => Cd.cs (cInt .i64) x.f_Kind ++ (Cd.cs cHd x.f_Bytes ++ (Cd.cs c_api_Endpoint x.f_To ++ (Cd.cs (cVec (cInt .u8) 32 (by decide)) x.f_Key ++ (Cd.cs (cInt .i64) x.f_Why ++ [])))), fun x => by simp only [List.length_append, Cd.len, List.length_nil] <;> rfl, fun x v hv => by
  simp only [List.mem_append, List.not_mem_nil, or_false] at hv
  rcases hv with hv | hv | hv | hv | hv
  all_goals exact Cd.one _ _ _ hv, by decide⟩
def ok_api_Event (x : S_api_Event) : Prop := (fun n : Int => (Lit.int .i64 n).wf = true) x.f_Kind ∧ (fun _ : Hd => True) x.f_Bytes ∧ ok_api_Endpoint x.f_To ∧ (fun v : (Vector Int 32) => ∀ x ∈ v.toList, (fun n : Int => (Lit.int .u8 n).wf = true) x) x.f_Key ∧ (fun n : Int => (Lit.int .i64 n).wf = true) x.f_Why
theorem c_api_Event_f_Kind (x : S_api_Event) : Lens (c_api_Event.cs x) 0 (cInt .i64) x.f_Kind (fun z => c_api_Event.cs { x with f_Kind := z }) :=
  ⟨[], Cd.cs cHd x.f_Bytes ++ (Cd.cs c_api_Endpoint x.f_To ++ (Cd.cs (cVec (cInt .u8) 32 (by decide)) x.f_Key ++ (Cd.cs (cInt .i64) x.f_Why ++ []))), by simp [c_api_Event], by simp only [List.length_append, Cd.len, List.length_nil] <;> rfl, fun z => by simp [c_api_Event]⟩
theorem c_api_Event_f_Bytes (x : S_api_Event) : Lens (c_api_Event.cs x) 1 cHd x.f_Bytes (fun z => c_api_Event.cs { x with f_Bytes := z }) :=
  ⟨Cd.cs (cInt .i64) x.f_Kind ++ [], Cd.cs c_api_Endpoint x.f_To ++ (Cd.cs (cVec (cInt .u8) 32 (by decide)) x.f_Key ++ (Cd.cs (cInt .i64) x.f_Why ++ [])), by simp [c_api_Event], by simp only [List.length_append, Cd.len, List.length_nil] <;> rfl, fun z => by simp [c_api_Event]⟩
theorem c_api_Event_f_To (x : S_api_Event) : Lens (c_api_Event.cs x) 2 c_api_Endpoint x.f_To (fun z => c_api_Event.cs { x with f_To := z }) :=
  ⟨Cd.cs (cInt .i64) x.f_Kind ++ (Cd.cs cHd x.f_Bytes ++ []), Cd.cs (cVec (cInt .u8) 32 (by decide)) x.f_Key ++ (Cd.cs (cInt .i64) x.f_Why ++ []), by simp [c_api_Event], by simp only [List.length_append, Cd.len, List.length_nil] <;> rfl, fun z => by simp [c_api_Event]⟩
theorem c_api_Event_f_Key (x : S_api_Event) : Lens (c_api_Event.cs x) 20 (cVec (cInt .u8) 32 (by decide)) x.f_Key (fun z => c_api_Event.cs { x with f_Key := z }) :=
  ⟨Cd.cs (cInt .i64) x.f_Kind ++ (Cd.cs cHd x.f_Bytes ++ (Cd.cs c_api_Endpoint x.f_To ++ [])), Cd.cs (cInt .i64) x.f_Why ++ [], by simp [c_api_Event], by simp only [List.length_append, Cd.len, List.length_nil] <;> rfl, fun z => by simp [c_api_Event]⟩
theorem c_api_Event_f_Why (x : S_api_Event) : Lens (c_api_Event.cs x) 52 (cInt .i64) x.f_Why (fun z => c_api_Event.cs { x with f_Why := z }) :=
  ⟨Cd.cs (cInt .i64) x.f_Kind ++ (Cd.cs cHd x.f_Bytes ++ (Cd.cs c_api_Endpoint x.f_To ++ (Cd.cs (cVec (cInt .u8) 32 (by decide)) x.f_Key ++ []))), [], by simp [c_api_Event], by simp only [List.length_append, Cd.len, List.length_nil] <;> rfl, fun z => by simp [c_api_Event]⟩
theorem opn_api_Event_58 : Opn Tryd.prog 58 c_api_Event ok_api_Event := fun enc w base spare held fuel cs d ps hd => by
  cases fuel with
  | zero => exact (opn_zero hd).elim
  | succ fuel =>
    obtain ⟨hlen, hf⟩ := opn_fields Tryd.underlying58 hd
    rw [show Tryd.prog.cellsOf 58 = 53 from by kernel_rfl] at hlen
    obtain ⟨d0, p0, h0⟩ : ∃ d' p', DataW.trod enc Tryd.prog w base spare held fuel 3 ((cs.drop 0).take (Tryd.prog.cellsOf 3)) = some (d', p') := hf 0 _ rfl
    obtain ⟨x0, e0, o0⟩ := (opn_int Tryd.underlying3) enc w base spare held fuel _ _ _ h0
    rw [show Tryd.prog.cellsOf 3 = 1 from by kernel_rfl] at e0
    obtain ⟨d1, p1, h1⟩ : ∃ d' p', DataW.trod enc Tryd.prog w base spare held fuel 51 ((cs.drop 1).take (Tryd.prog.cellsOf 51)) = some (d', p') := hf 1 _ rfl
    obtain ⟨x1, e1, o1⟩ := (opn_hd Tryd.underlying51) enc w base spare held fuel _ _ _ h1
    rw [show Tryd.prog.cellsOf 51 = 1 from by kernel_rfl] at e1
    obtain ⟨d2, p2, h2⟩ : ∃ d' p', DataW.trod enc Tryd.prog w base spare held fuel 56 ((cs.drop 2).take (Tryd.prog.cellsOf 56)) = some (d', p') := hf 2 _ rfl
    obtain ⟨x2, e2, o2⟩ := (opn_api_Endpoint_56) enc w base spare held fuel _ _ _ h2
    rw [show Tryd.prog.cellsOf 56 = 18 from by kernel_rfl] at e2
    obtain ⟨d3, p3, h3⟩ : ∃ d' p', DataW.trod enc Tryd.prog w base spare held fuel 48 ((cs.drop 20).take (Tryd.prog.cellsOf 48)) = some (d', p') := hf 3 _ rfl
    obtain ⟨x3, e3, o3⟩ := (opn_vec Tryd.underlying48 (by kernel_rfl) (by kernel_rfl) (opn_int Tryd.underlying5)) enc w base spare held fuel _ _ _ h3
    rw [show Tryd.prog.cellsOf 48 = 32 from by kernel_rfl] at e3
    obtain ⟨d4, p4, h4⟩ : ∃ d' p', DataW.trod enc Tryd.prog w base spare held fuel 24 ((cs.drop 52).take (Tryd.prog.cellsOf 24)) = some (d', p') := hf 4 _ rfl
    obtain ⟨x4, e4, o4⟩ := (opn_int Tryd.underlying24) enc w base spare held fuel _ _ _ h4
    rw [show Tryd.prog.cellsOf 24 = 1 from by kernel_rfl] at e4
    refine ⟨⟨x0, x1, x2, x3, x4⟩, ?_, o0, o1, o2, o3, o4⟩
    show cs = Cd.cs (cInt .i64) x0 ++ (Cd.cs cHd x1 ++ (Cd.cs c_api_Endpoint x2 ++ (Cd.cs (cVec (cInt .u8) 32 (by decide)) x3 ++ (Cd.cs (cInt .i64) x4 ++ []))))
    rw [← e0, ← e1, ← e2, ← e3, ← e4]
    exact (split_cons (l := cs) (o := 0) (k := 1) (split_cons (l := cs) (o := 1) (k := 1) (split_cons (l := cs) (o := 2) (k := 18) (split_cons (l := cs) (o := 20) (k := 32) (split_cons (l := cs) (o := 52) (k := 1) (split_nil (l := cs) (o := 53) (by omega)))))))
theorem places_api_Event_58 : ∀ w, ((#[{ name := "Kind", type := 3, offset := 0, embedded := false, tag := "", pkgPath := "", byteOffset := 0 }, { name := "Bytes", type := 51, offset := 1, embedded := false, tag := "", pkgPath := "", byteOffset := 8 }, { name := "To", type := 56, offset := 2, embedded := false, tag := "", pkgPath := "", byteOffset := 32 }, { name := "Key", type := 48, offset := 20, embedded := false, tag := "", pkgPath := "", byteOffset := 64 }, { name := "Why", type := 24, offset := 52, embedded := false, tag := "", pkgPath := "", byteOffset := 96 }] : Array Field).mapM fun f => (do pure (f.offset, ← sizeOf f.type) : Sem (Nat × Nat))).run Tryd.prog w = .ok #[(0, 1), (1, 1), (2, 18), (20, 32), (52, 1)] w := fun w => by
  simp [Tryd.sizeOf3 w, Tryd.sizeOf51 w, Tryd.sizeOf56 w, Tryd.sizeOf48 w, Tryd.sizeOf24 w]
end Go.Proofs.YtnojjenpggdadaaDoor
