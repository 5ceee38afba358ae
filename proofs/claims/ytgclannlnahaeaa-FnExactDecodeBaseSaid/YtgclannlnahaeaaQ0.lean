/- The seat: which functions are read how; facts on its types and texts. -/
import Derived.Test.YtgclannlnahaeaaProg
import Derived.Test.YtgclannlnahaeaaP8
import Derived.KernelRfl
set_option linter.unusedVariables false
namespace Go.Pi
open Go Go.Proofs
def keepL : List (Nat × List Nat) := [(7, [0, 2, 4, 5, 21, 22, 33, 34]), (31, [0, 2, 4, 5, 6, 7]), (35, [0, 2, 3, 6, 7, 18, 19]), (37, [0, 3, 6]), (39, [3, 7, 8, 9]), (41, [0, 1, 5]), (42, [0, 1, 5]), (43, [0, 1, 5]), (44, [0, 1, 5]), (45, [0, 1, 5]), (46, [0, 1, 5]), (51, [0, 3]), (57, [0, 5, 6, 7]), (71, [0, 2, 3, 4, 5]), (74, [0, 3, 4]), (75, [1, 3]), (79, [0, 13, 14, 15]), (84, [0, 1, 5]), (85, [0, 1, 5]), (86, [0, 3]), (87, [0, 1, 5]), (88, [0, 1, 5]), (97, [0, 3]), (111, [0, 1, 7, 8, 9]), (112, [0, 3]), (113, [0, 3]), (115, [0, 5, 6, 7]), (120, [0, 1, 5]), (121, [0, 1, 5]), (137, [0, 3, 5, 6]), (138, [0, 1, 5]), (141, [0, 1, 7, 8]), (157, [0, 1, 7, 8]), (169, [0, 1, 7, 8])]
def ioL : List (Nat × List Nat) := [(9, [0]), (43, [0]), (44, [0]), (84, [0]), (85, [0])]
def hintL : List (Nat × List (Nat × List Nat)) := []
noncomputable def C : Cfg := ⟨Try.prog, fun _ => none, fun fn i => ((ioL.lookup fn).getD []).contains i, fun f r k => ((((hintL.lookup f).getD []).lookup r).getD []).contains k, fun f => (keepL.lookup f).getD []⟩
@[go_sem] theorem ty3sh : sh C.P 3 = .int .i64 := by kernel_rfl
@[go_sem] theorem ty3ld : tLoad C.P 3 = some (1, false) := by kernel_rfl
@[go_sem] theorem ty3z : tZero C.P 3 = some (.int .i64 0) := by kernel_rfl
@[go_sem] theorem ty4sh : sh C.P 4 = .bool := by kernel_rfl
@[go_sem] theorem ty4ld : tLoad C.P 4 = some (1, false) := by kernel_rfl
@[go_sem] theorem ty4z : tZero C.P 4 = some (.bool false) := by kernel_rfl
@[go_sem] theorem ty5sh : sh C.P 5 = .int .u8 := by kernel_rfl
@[go_sem] theorem ty5ld : tLoad C.P 5 = some (1, false) := by kernel_rfl
@[go_sem] theorem ty5z : tZero C.P 5 = some (.int .u8 0) := by kernel_rfl
@[go_sem] theorem ty9sh : sh C.P 9 = .str := by kernel_rfl
@[go_sem] theorem ty9ld : tLoad C.P 9 = some (1, false) := by kernel_rfl
@[go_sem] theorem ty9z : tZero C.P 9 = some (.str []) := by kernel_rfl
@[go_sem] theorem ty22sh : sh C.P 22 = .sl false := by kernel_rfl
@[go_sem] theorem ty22ld : tLoad C.P 22 = some (1, false) := by kernel_rfl
@[go_sem] theorem ty22z : tZero C.P 22 = some (.sl true []) := by kernel_rfl
@[go_sem] theorem ty22el : tElem C.P 22 = some (2, 48) := by kernel_rfl
@[go_sem] theorem ty22ez : tElemZ C.P 22 = some (.agg [.sl true [], .sl true []]) := by kernel_rfl
@[go_sem] theorem ty23sh : sh C.P 23 = .sl false := by kernel_rfl
@[go_sem] theorem ty23ld : tLoad C.P 23 = some (1, false) := by kernel_rfl
@[go_sem] theorem ty23z : tZero C.P 23 = some (.sl true []) := by kernel_rfl
@[go_sem] theorem ty23el : tElem C.P 23 = some (4, 40) := by kernel_rfl
@[go_sem] theorem ty23ez : tElemZ C.P 23 = some (.agg [.str [], .int .i64 0, .int .i64 0, .bool false]) := by kernel_rfl
@[go_sem] theorem ty25sh : sh C.P 25 = .ot := by kernel_rfl
@[go_sem] theorem ty25ld : tLoad C.P 25 = some (2, true) := by kernel_rfl
@[go_sem] theorem ty25z : tZero C.P 25 = some (.agg [.sl true [], .sl true []]) := by kernel_rfl
@[go_sem] theorem ty25f0 : tFld C.P 25 0 = some (0, 1, false) := by kernel_rfl
@[go_sem] theorem ty25f1 : tFld C.P 25 1 = some (1, 1, false) := by kernel_rfl
@[go_sem] theorem ty25pl : tPlaces C.P 25 = some [(0, 1), (1, 1)] := by kernel_rfl
@[go_sem] theorem ty31sh : sh C.P 31 = .sl true := by kernel_rfl
@[go_sem] theorem ty31ld : tLoad C.P 31 = some (1, false) := by kernel_rfl
@[go_sem] theorem ty31z : tZero C.P 31 = some (.sl true []) := by kernel_rfl
@[go_sem] theorem ty31el : tElem C.P 31 = some (1, 1) := by kernel_rfl
@[go_sem] theorem ty31ez : tElemZ C.P 31 = some (.int .u8 0) := by kernel_rfl
@[go_sem] theorem ty32sh : sh C.P 32 = .sl false := by kernel_rfl
@[go_sem] theorem ty32ld : tLoad C.P 32 = some (1, false) := by kernel_rfl
@[go_sem] theorem ty32z : tZero C.P 32 = some (.sl true []) := by kernel_rfl
@[go_sem] theorem ty32el : tElem C.P 32 = some (2, 24) := by kernel_rfl
@[go_sem] theorem ty32ez : tElemZ C.P 32 = some (.agg [.str [], .int .i64 0]) := by kernel_rfl
@[go_sem] theorem ty60ld : tLoad C.P 60 = some (1, false) := by kernel_rfl
@[go_sem] theorem ty62sh : sh C.P 62 = .ot := by kernel_rfl
@[go_sem] theorem ty62ld : tLoad C.P 62 = some (3, true) := by kernel_rfl
@[go_sem] theorem ty62z : tZero C.P 62 = some (.agg [.str [], .int .i64 0, .bool false]) := by kernel_rfl
@[go_sem] theorem ty62f0 : tFld C.P 62 0 = some (0, 1, false) := by kernel_rfl
@[go_sem] theorem ty62f1 : tFld C.P 62 1 = some (1, 1, false) := by kernel_rfl
@[go_sem] theorem ty62f2 : tFld C.P 62 2 = some (2, 1, false) := by kernel_rfl
@[go_sem] theorem ty62pl : tPlaces C.P 62 = some [(0, 1), (1, 1), (2, 1)] := by kernel_rfl
@[go_sem] theorem ty62eq : tEq C.P 62 = some [.str, .int .i64, .bool] := by kernel_rfl
@[go_sem] theorem ty64sh : sh C.P 64 = .sl false := by kernel_rfl
@[go_sem] theorem ty64ld : tLoad C.P 64 = some (1, false) := by kernel_rfl
@[go_sem] theorem ty64z : tZero C.P 64 = some (.sl true []) := by kernel_rfl
@[go_sem] theorem ty64el : tElem C.P 64 = some (1, 8) := by kernel_rfl
@[go_sem] theorem ty64ez : tElemZ C.P 64 = some (.int .i64 0) := by kernel_rfl
@[go_sem] theorem ty66sh : sh C.P 66 = .ot := by kernel_rfl
@[go_sem] theorem ty66ld : tLoad C.P 66 = some (2, true) := by kernel_rfl
@[go_sem] theorem ty66z : tZero C.P 66 = some (.agg [.sl true [], .sl true []]) := by kernel_rfl
@[go_sem] theorem ty66f0 : tFld C.P 66 0 = some (0, 1, false) := by kernel_rfl
@[go_sem] theorem ty66f1 : tFld C.P 66 1 = some (1, 1, false) := by kernel_rfl
@[go_sem] theorem ty66pl : tPlaces C.P 66 = some [(0, 1), (1, 1)] := by kernel_rfl
@[go_sem] theorem ty71sh : sh C.P 71 = .ot := by kernel_rfl
@[go_sem] theorem ty71ld : tLoad C.P 71 = some (4, true) := by kernel_rfl
@[go_sem] theorem ty71z : tZero C.P 71 = some (.agg [.str [], .int .i64 0, .int .i64 0, .bool false]) := by kernel_rfl
@[go_sem] theorem ty71f0 : tFld C.P 71 0 = some (0, 1, false) := by kernel_rfl
@[go_sem] theorem ty71f1 : tFld C.P 71 1 = some (1, 1, false) := by kernel_rfl
@[go_sem] theorem ty71f2 : tFld C.P 71 2 = some (2, 1, false) := by kernel_rfl
@[go_sem] theorem ty71f3 : tFld C.P 71 3 = some (3, 1, false) := by kernel_rfl
@[go_sem] theorem ty71pl : tPlaces C.P 71 = some [(0, 1), (1, 1), (2, 1), (3, 1)] := by kernel_rfl
@[go_sem] theorem ty71eq : tEq C.P 71 = some [.str, .int .i64, .int .i64, .bool] := by kernel_rfl
@[go_sem] theorem ty87sh : sh C.P 87 = .ot := by kernel_rfl
@[go_sem] theorem ty87ld : tLoad C.P 87 = some (2, true) := by kernel_rfl
@[go_sem] theorem ty87z : tZero C.P 87 = some (.agg [.str [], .int .i64 0]) := by kernel_rfl
@[go_sem] theorem ty87f0 : tFld C.P 87 0 = some (0, 1, false) := by kernel_rfl
@[go_sem] theorem ty87f1 : tFld C.P 87 1 = some (1, 1, false) := by kernel_rfl
@[go_sem] theorem ty87pl : tPlaces C.P 87 = some [(0, 1), (1, 1)] := by kernel_rfl
@[go_sem] theorem ty87eq : tEq C.P 87 = some [.str, .int .i64] := by kernel_rfl
@[go_sem] theorem ty90ld : tLoad C.P 90 = some (1, false) := by kernel_rfl
@[go_sem] theorem ty96ld : tLoad C.P 96 = some (1, false) := by kernel_rfl
@[go_sem] theorem ty98sh : sh C.P 98 = .ot := by kernel_rfl
@[go_sem] theorem ty98ld : tLoad C.P 98 = some (3, true) := by kernel_rfl
@[go_sem] theorem ty98z : tZero C.P 98 = some (.agg [.str [], .int .i64 0, .bool false]) := by kernel_rfl
@[go_sem] theorem ty98f0 : tFld C.P 98 0 = some (0, 1, false) := by kernel_rfl
@[go_sem] theorem ty98f1 : tFld C.P 98 1 = some (1, 1, false) := by kernel_rfl
@[go_sem] theorem ty98f2 : tFld C.P 98 2 = some (2, 1, false) := by kernel_rfl
@[go_sem] theorem ty98pl : tPlaces C.P 98 = some [(0, 1), (1, 1), (2, 1)] := by kernel_rfl
@[go_sem] theorem ty98eq : tEq C.P 98 = some [.str, .int .i64, .bool] := by kernel_rfl
@[go_sem] theorem ty103ld : tLoad C.P 103 = some (1, false) := by kernel_rfl
@[go_sem] theorem ty120ld : tLoad C.P 120 = some (1, false) := by kernel_rfl
-- laws.FnExactDecodeBase
@[go_sem] theorem fi3 : fInfo C.P 3 = some true := by kernel_rfl
@[go_sem] theorem io3 : C.io 3 = io0 := rfl
@[go_sem] theorem hh3 : C.hint 3 = hh0 := rfl
noncomputable def c3 : Code := (Try.f3.body).getD .skip
theorem fb3 : fBody C.P 3 = some (66, [.tmp 2], c3) := by kernel_rfl
-- spec.DecodeBase
@[go_sem] theorem fi6 : fInfo C.P 6 = some false := by kernel_rfl
@[go_sem] theorem io6 : C.io 6 = io0 := rfl
@[go_sem] theorem hh6 : C.hint 6 = hh0 := rfl
noncomputable def c6 : Code := (Try.f6.body).getD .skip
theorem fb6 : fBody C.P 6 = some (12, [.cell 2 25, .tmp 3], c6) := by kernel_rfl
-- impl.DecodeBase
@[go_sem] theorem fi7 : fInfo C.P 7 = some false := by kernel_rfl
@[go_sem] theorem io7 : C.io 7 = io0 := rfl
@[go_sem] theorem hh7 : C.hint 7 = hh0 := rfl
@[go_sem] theorem kp7 : C.keep 7 = [0, 2, 4, 5, 21, 22, 33, 34] := rfl
noncomputable def c7 : Code := (Try.f7.body).getD .skip
theorem fb7 : fBody C.P 7 = some (80, [.cell 2 25, .tmp 3], c7) := by kernel_rfl
-- laws.eqBase
@[go_sem] theorem fi8 : fInfo C.P 8 = some true := by kernel_rfl
@[go_sem] theorem io8 : C.io 8 = io0 := rfl
@[go_sem] theorem hh8 : C.hint 8 = hh0 := rfl
noncomputable def c8 : Code := (Try.f8.body).getD .skip
theorem fb8 : fBody C.P 8 = some (17, [.tmp 4], c8) := by kernel_rfl
-- laws.markBase
@[go_sem] theorem fi9 : fInfo C.P 9 = some true := by kernel_rfl
@[go_sem] theorem io9 : C.io 9 = ioK [0] := rfl
@[go_sem] theorem hh9 : C.hint 9 = hh0 := rfl
noncomputable def c9 : Code := (Try.f9.body).getD .skip
theorem fb9 : fBody C.P 9 = some (14, [.tmp 4], c9) := by kernel_rfl
-- laws.heldBase
@[go_sem] theorem fi10 : fInfo C.P 10 = some true := by kernel_rfl
@[go_sem] theorem io10 : C.io 10 = io0 := rfl
@[go_sem] theorem hh10 : C.hint 10 = hh0 := rfl
noncomputable def c10 : Code := (Try.f10.body).getD .skip
theorem fb10 : fBody C.P 10 = some (18, [.tmp 4], c10) := by kernel_rfl
-- spec.l11Read
@[go_sem] theorem fi31 : fInfo C.P 31 = some false := by kernel_rfl
@[go_sem] theorem io31 : C.io 31 = io0 := rfl
@[go_sem] theorem hh31 : C.hint 31 = hh0 := rfl
@[go_sem] theorem kp31 : C.keep 31 = [0, 2, 4, 5, 6, 7] := rfl
noncomputable def c31 : Code := (Try.f31.body).getD .skip
theorem fb31 : fBody C.P 31 = some (108, [.cell 2 25, .tmp 3], c31) := by kernel_rfl
-- impl.isText
@[go_sem] theorem fi32 : fInfo C.P 32 = some true := by kernel_rfl
@[go_sem] theorem io32 : C.io 32 = io0 := rfl
@[go_sem] theorem hh32 : C.hint 32 = hh0 := rfl
noncomputable def c32 : Code := (Try.f32.body).getD .skip
theorem fb32 : fBody C.P 32 = some (6, [.tmp 2], c32) := by kernel_rfl
-- strings.HasPrefix
@[go_sem] theorem fi33 : fInfo C.P 33 = some true := by kernel_rfl
@[go_sem] theorem io33 : C.io 33 = io0 := rfl
@[go_sem] theorem hh33 : C.hint 33 = hh0 := rfl
noncomputable def c33 : Code := (Try.f33.body).getD .skip
theorem fb33 : fBody C.P 33 = some (8, [.tmp 4], c33) := by kernel_rfl
-- impl.reader).few
@[go_sem] theorem fi34 : fInfo C.P 34 = some true := by kernel_rfl
@[go_sem] theorem io34 : C.io 34 = io0 := rfl
@[go_sem] theorem hh34 : C.hint 34 = hh0 := rfl
noncomputable def c34 : Code := (Try.f34.body).getD .skip
theorem fb34 : fBody C.P 34 = some (15, [.tmp 4], c34) := by kernel_rfl
-- impl.reader).commit
@[go_sem] theorem fi35 : fInfo C.P 35 = some false := by kernel_rfl
@[go_sem] theorem io35 : C.io 35 = io0 := rfl
@[go_sem] theorem hh35 : C.hint 35 = hh0 := rfl
@[go_sem] theorem kp35 : C.keep 35 = [0, 2, 3, 6, 7, 18, 19] := rfl
noncomputable def c35 : Code := (Try.f35.body).getD .skip
theorem fb35 : fBody C.P 35 = some (34, [.cell 2 66], c35) := by kernel_rfl
-- impl.reader).text
@[go_sem] theorem fi36 : fInfo C.P 36 = some true := by kernel_rfl
@[go_sem] theorem io36 : C.io 36 = io0 := rfl
@[go_sem] theorem hh36 : C.hint 36 = hh0 := rfl
noncomputable def c36 : Code := (Try.f36.body).getD .skip
theorem fb36 : fBody C.P 36 = some (53, [.tmp 4], c36) := by kernel_rfl
-- impl.reader).number
@[go_sem] theorem fi37 : fInfo C.P 37 = some true := by kernel_rfl
@[go_sem] theorem io37 : C.io 37 = io0 := rfl
@[go_sem] theorem hh37 : C.hint 37 = hh0 := rfl
@[go_sem] theorem kp37 : C.keep 37 = [0, 3, 6] := rfl
noncomputable def c37 : Code := (Try.f37.body).getD .skip
theorem fb37 : fBody C.P 37 = some (72, [.tmp 2], c37) := by kernel_rfl
-- impl.reader).ends
@[go_sem] theorem fi38 : fInfo C.P 38 = some true := by kernel_rfl
@[go_sem] theorem io38 : C.io 38 = io0 := rfl
@[go_sem] theorem hh38 : C.hint 38 = hh0 := rfl
noncomputable def c38 : Code := (Try.f38.body).getD .skip
theorem fb38 : fBody C.P 38 = some (20, [.tmp 2], c38) := by kernel_rfl
-- impl.sumOf
@[go_sem] theorem fi39 : fInfo C.P 39 = some true := by kernel_rfl
@[go_sem] theorem io39 : C.io 39 = io0 := rfl
@[go_sem] theorem hh39 : C.hint 39 = hh0 := rfl
@[go_sem] theorem kp39 : C.keep 39 = [3, 7, 8, 9] := rfl
noncomputable def c39 : Code := (Try.f39.body).getD .skip
theorem fb39 : fBody C.P 39 = some (22, [.tmp 2], c39) := by kernel_rfl
-- impl.BaseOK
@[go_sem] theorem fi40 : fInfo C.P 40 = some true := by kernel_rfl
@[go_sem] theorem io40 : C.io 40 = io0 := rfl
@[go_sem] theorem hh40 : C.hint 40 = hh0 := rfl
noncomputable def c40 : Code := (Try.f40.body).getD .skip
theorem fb40 : fBody C.P 40 = some (17, [.tmp 2], c40) := by kernel_rfl
-- laws.eqCommitS
@[go_sem] theorem fi41 : fInfo C.P 41 = some true := by kernel_rfl
@[go_sem] theorem io41 : C.io 41 = io0 := rfl
@[go_sem] theorem hh41 : C.hint 41 = hh0 := rfl
@[go_sem] theorem kp41 : C.keep 41 = [0, 1, 5] := rfl
noncomputable def c41 : Code := (Try.f41.body).getD .skip
theorem fb41 : fBody C.P 41 = some (27, [.tmp 4], c41) := by kernel_rfl
-- laws.eqRefS
@[go_sem] theorem fi42 : fInfo C.P 42 = some true := by kernel_rfl
@[go_sem] theorem io42 : C.io 42 = io0 := rfl
@[go_sem] theorem hh42 : C.hint 42 = hh0 := rfl
@[go_sem] theorem kp42 : C.keep 42 = [0, 1, 5] := rfl
noncomputable def c42 : Code := (Try.f42.body).getD .skip
theorem fb42 : fBody C.P 42 = some (27, [.tmp 4], c42) := by kernel_rfl
-- laws.markCommitS
@[go_sem] theorem fi43 : fInfo C.P 43 = some true := by kernel_rfl
@[go_sem] theorem io43 : C.io 43 = ioK [0] := rfl
@[go_sem] theorem hh43 : C.hint 43 = hh0 := rfl
@[go_sem] theorem kp43 : C.keep 43 = [0, 1, 5] := rfl
noncomputable def c43 : Code := (Try.f43.body).getD .skip
theorem fb43 : fBody C.P 43 = some (27, [.tmp 4], c43) := by kernel_rfl
-- laws.markRefS
@[go_sem] theorem fi44 : fInfo C.P 44 = some true := by kernel_rfl
@[go_sem] theorem io44 : C.io 44 = ioK [0] := rfl
@[go_sem] theorem hh44 : C.hint 44 = hh0 := rfl
@[go_sem] theorem kp44 : C.keep 44 = [0, 1, 5] := rfl
noncomputable def c44 : Code := (Try.f44.body).getD .skip
theorem fb44 : fBody C.P 44 = some (44, [.tmp 4], c44) := by kernel_rfl
-- laws.heldCommitS
@[go_sem] theorem fi45 : fInfo C.P 45 = some true := by kernel_rfl
@[go_sem] theorem io45 : C.io 45 = io0 := rfl
@[go_sem] theorem hh45 : C.hint 45 = hh0 := rfl
@[go_sem] theorem kp45 : C.keep 45 = [0, 1, 5] := rfl
noncomputable def c45 : Code := (Try.f45.body).getD .skip
theorem fb45 : fBody C.P 45 = some (31, [.tmp 4], c45) := by kernel_rfl
-- laws.heldRefS
@[go_sem] theorem fi46 : fInfo C.P 46 = some true := by kernel_rfl
@[go_sem] theorem io46 : C.io 46 = io0 := rfl
@[go_sem] theorem hh46 : C.hint 46 = hh0 := rfl
@[go_sem] theorem kp46 : C.keep 46 = [0, 1, 5] := rfl
noncomputable def c46 : Code := (Try.f46.body).getD .skip
theorem fb46 : fBody C.P 46 = some (52, [.tmp 4], c46) := by kernel_rfl
-- spec.l01OK
@[go_sem] theorem fi51 : fInfo C.P 51 = some true := by kernel_rfl
@[go_sem] theorem io51 : C.io 51 = io0 := rfl
@[go_sem] theorem hh51 : C.hint 51 = hh0 := rfl
@[go_sem] theorem kp51 : C.keep 51 = [0, 3] := rfl
noncomputable def c51 : Code := (Try.f51.body).getD .skip
theorem fb51 : fBody C.P 51 = some (47, [.tmp 2], c51) := by kernel_rfl
-- impl.MapOK
@[go_sem] theorem fi57 : fInfo C.P 57 = some true := by kernel_rfl
@[go_sem] theorem io57 : C.io 57 = io0 := rfl
@[go_sem] theorem hh57 : C.hint 57 = hh0 := rfl
@[go_sem] theorem kp57 : C.keep 57 = [0, 5, 6, 7] := rfl
noncomputable def c57 : Code := (Try.f57.body).getD .skip
theorem fb57 : fBody C.P 57 = some (41, [.tmp 2], c57) := by kernel_rfl
-- impl.NameOK
@[go_sem] theorem fi61 : fInfo C.P 61 = some true := by kernel_rfl
@[go_sem] theorem io61 : C.io 61 = io0 := rfl
@[go_sem] theorem hh61 : C.hint 61 = hh0 := rfl
noncomputable def c61 : Code := (Try.f61.body).getD .skip
theorem fb61 : fBody C.P 61 = some (16, [.tmp 2], c61) := by kernel_rfl
-- impl.isValue
@[go_sem] theorem fi62 : fInfo C.P 62 = some true := by kernel_rfl
@[go_sem] theorem io62 : C.io 62 = io0 := rfl
@[go_sem] theorem hh62 : C.hint 62 = hh0 := rfl
noncomputable def c62 : Code := (Try.f62.body).getD .skip
theorem fb62 : fBody C.P 62 = some (5, [.tmp 2], c62) := by kernel_rfl
-- spec.l11Reader).count
@[go_sem] theorem fi70 : fInfo C.P 70 = some true := by kernel_rfl
@[go_sem] theorem io70 : C.io 70 = io0 := rfl
@[go_sem] theorem hh70 : C.hint 70 = hh0 := rfl
noncomputable def c70 : Code := (Try.f70.body).getD .skip
theorem fb70 : fBody C.P 70 = some (15, [.tmp 4], c70) := by kernel_rfl
-- spec.l11Reader).commit
@[go_sem] theorem fi71 : fInfo C.P 71 = some false := by kernel_rfl
@[go_sem] theorem io71 : C.io 71 = io0 := rfl
@[go_sem] theorem hh71 : C.hint 71 = hh0 := rfl
@[go_sem] theorem kp71 : C.keep 71 = [0, 2, 3, 4, 5] := rfl
noncomputable def c71 : Code := (Try.f71.body).getD .skip
theorem fb71 : fBody C.P 71 = some (41, [.cell 2 66], c71) := by kernel_rfl
-- spec.l11Reader).word
@[go_sem] theorem fi72 : fInfo C.P 72 = some true := by kernel_rfl
@[go_sem] theorem io72 : C.io 72 = io0 := rfl
@[go_sem] theorem hh72 : C.hint 72 = hh0 := rfl
noncomputable def c72 : Code := (Try.f72.body).getD .skip
theorem fb72 : fBody C.P 72 = some (50, [.tmp 2], c72) := by kernel_rfl
-- spec.l11Reader).number
@[go_sem] theorem fi73 : fInfo C.P 73 = some true := by kernel_rfl
@[go_sem] theorem io73 : C.io 73 = io0 := rfl
@[go_sem] theorem hh73 : C.hint 73 = hh0 := rfl
noncomputable def c73 : Code := (Try.f73.body).getD .skip
theorem fb73 : fBody C.P 73 = some (35, [.tmp 2], c73) := by kernel_rfl
-- spec.l11Sum
@[go_sem] theorem fi74 : fInfo C.P 74 = some true := by kernel_rfl
@[go_sem] theorem io74 : C.io 74 = io0 := rfl
@[go_sem] theorem hh74 : C.hint 74 = hh0 := rfl
@[go_sem] theorem kp74 : C.keep 74 = [0, 3, 4] := rfl
noncomputable def c74 : Code := (Try.f74.body).getD .skip
theorem fb74 : fBody C.P 74 = some (21, [.tmp 2], c74) := by kernel_rfl
-- spec.l05OK
@[go_sem] theorem fi75 : fInfo C.P 75 = some true := by kernel_rfl
@[go_sem] theorem io75 : C.io 75 = io0 := rfl
@[go_sem] theorem hh75 : C.hint 75 = hh0 := rfl
@[go_sem] theorem kp75 : C.keep 75 = [1, 3] := rfl
noncomputable def c75 : Code := (Try.f75.body).getD .skip
theorem fb75 : fBody C.P 75 = some (31, [.tmp 2], c75) := by kernel_rfl
-- stringslite.HasPrefix
@[go_sem] theorem fi76 : fInfo C.P 76 = some true := by kernel_rfl
@[go_sem] theorem io76 : C.io 76 = io0 := rfl
@[go_sem] theorem hh76 : C.hint 76 = hh0 := rfl
noncomputable def c76 : Code := (Try.f76.body).getD .skip
theorem fb76 : fBody C.P 76 = some (18, [.tmp 4], c76) := by kernel_rfl
-- impl.reader).value
@[go_sem] theorem fi77 : fInfo C.P 77 = some true := by kernel_rfl
@[go_sem] theorem io77 : C.io 77 = io0 := rfl
@[go_sem] theorem hh77 : C.hint 77 = hh0 := rfl
noncomputable def c77 : Code := (Try.f77.body).getD .skip
theorem fb77 : fBody C.P 77 = some (15, [.tmp 2], c77) := by kernel_rfl
-- impl.StoreOK
@[go_sem] theorem fi78 : fInfo C.P 78 = some true := by kernel_rfl
@[go_sem] theorem io78 : C.io 78 = io0 := rfl
@[go_sem] theorem hh78 : C.hint 78 = hh0 := rfl
noncomputable def c78 : Code := (Try.f78.body).getD .skip
theorem fb78 : fBody C.P 78 = some (14, [.tmp 2], c78) := by kernel_rfl
-- impl.RefsOK
@[go_sem] theorem fi79 : fInfo C.P 79 = some true := by kernel_rfl
@[go_sem] theorem io79 : C.io 79 = io0 := rfl
@[go_sem] theorem hh79 : C.hint 79 = hh0 := rfl
@[go_sem] theorem kp79 : C.keep 79 = [0, 13, 14, 15] := rfl
noncomputable def c79 : Code := (Try.f79.body).getD .skip
theorem fb79 : fBody C.P 79 = some (28, [.tmp 2], c79) := by kernel_rfl
-- impl.Ref]
@[go_sem] theorem fi80 : fInfo C.P 80 = some true := by kernel_rfl
@[go_sem] theorem io80 : C.io 80 = io0 := rfl
@[go_sem] theorem hh80 : C.hint 80 = hh0 := rfl
noncomputable def c80 : Code := (Try.f80.body).getD .skip
theorem fb80 : fBody C.P 80 = some (9, [.tmp 4], c80) := by kernel_rfl
-- impl.BaseOK$1
@[go_sem] theorem fi81 : fInfo C.P 81 = some true := by kernel_rfl
@[go_sem] theorem io81 : C.io 81 = io0 := rfl
@[go_sem] theorem hh81 : C.hint 81 = hh0 := rfl
noncomputable def c81 : Code := (Try.f81.body).getD .skip
theorem fb81 : fBody C.P 81 = some (10, [.tmp 3], c81) := by kernel_rfl
-- laws.eqCommit
@[go_sem] theorem fi82 : fInfo C.P 82 = some true := by kernel_rfl
@[go_sem] theorem io82 : C.io 82 = io0 := rfl
@[go_sem] theorem hh82 : C.hint 82 = hh0 := rfl
noncomputable def c82 : Code := (Try.f82.body).getD .skip
theorem fb82 : fBody C.P 82 = some (17, [.tmp 4], c82) := by kernel_rfl
-- laws.eqRef
@[go_sem] theorem fi83 : fInfo C.P 83 = some true := by kernel_rfl
@[go_sem] theorem io83 : C.io 83 = io0 := rfl
@[go_sem] theorem hh83 : C.hint 83 = hh0 := rfl
noncomputable def c83 : Code := (Try.f83.body).getD .skip
theorem fb83 : fBody C.P 83 = some (25, [.tmp 4], c83) := by kernel_rfl
-- laws.markIntS
@[go_sem] theorem fi84 : fInfo C.P 84 = some true := by kernel_rfl
@[go_sem] theorem io84 : C.io 84 = ioK [0] := rfl
@[go_sem] theorem hh84 : C.hint 84 = hh0 := rfl
@[go_sem] theorem kp84 : C.keep 84 = [0, 1, 5] := rfl
noncomputable def c84 : Code := (Try.f84.body).getD .skip
theorem fb84 : fBody C.P 84 = some (19, [.tmp 4], c84) := by kernel_rfl
-- laws.markEntryS
@[go_sem] theorem fi85 : fInfo C.P 85 = some true := by kernel_rfl
@[go_sem] theorem io85 : C.io 85 = ioK [0] := rfl
@[go_sem] theorem hh85 : C.hint 85 = hh0 := rfl
@[go_sem] theorem kp85 : C.keep 85 = [0, 1, 5] := rfl
noncomputable def c85 : Code := (Try.f85.body).getD .skip
theorem fb85 : fBody C.P 85 = some (28, [.tmp 4], c85) := by kernel_rfl
-- laws.markText
@[go_sem] theorem fi86 : fInfo C.P 86 = some true := by kernel_rfl
@[go_sem] theorem io86 : C.io 86 = io0 := rfl
@[go_sem] theorem hh86 : C.hint 86 = hh0 := rfl
@[go_sem] theorem kp86 : C.keep 86 = [0, 3] := rfl
noncomputable def c86 : Code := (Try.f86.body).getD .skip
theorem fb86 : fBody C.P 86 = some (20, [.tmp 2], c86) := by kernel_rfl
-- laws.heldIntS
@[go_sem] theorem fi87 : fInfo C.P 87 = some true := by kernel_rfl
@[go_sem] theorem io87 : C.io 87 = io0 := rfl
@[go_sem] theorem hh87 : C.hint 87 = hh0 := rfl
@[go_sem] theorem kp87 : C.keep 87 = [0, 1, 5] := rfl
noncomputable def c87 : Code := (Try.f87.body).getD .skip
theorem fb87 : fBody C.P 87 = some (21, [.tmp 4], c87) := by kernel_rfl
-- laws.heldEntryS
@[go_sem] theorem fi88 : fInfo C.P 88 = some true := by kernel_rfl
@[go_sem] theorem io88 : C.io 88 = io0 := rfl
@[go_sem] theorem hh88 : C.hint 88 = hh0 := rfl
@[go_sem] theorem kp88 : C.keep 88 = [0, 1, 5] := rfl
noncomputable def c88 : Code := (Try.f88.body).getD .skip
theorem fb88 : fBody C.P 88 = some (32, [.tmp 4], c88) := by kernel_rfl
-- spec.l00Word
@[go_sem] theorem fi97 : fInfo C.P 97 = some true := by kernel_rfl
@[go_sem] theorem io97 : C.io 97 = io0 := rfl
@[go_sem] theorem hh97 : C.hint 97 = hh0 := rfl
@[go_sem] theorem kp97 : C.keep 97 = [0, 3] := rfl
noncomputable def c97 : Code := (Try.f97.body).getD .skip
theorem fb97 : fBody C.P 97 = some (36, [.tmp 2], c97) := by kernel_rfl
-- spec.l01In
@[go_sem] theorem fi98 : fInfo C.P 98 = some true := by kernel_rfl
@[go_sem] theorem io98 : C.io 98 = io0 := rfl
@[go_sem] theorem hh98 : C.hint 98 = hh0 := rfl
noncomputable def c98 : Code := (Try.f98.body).getD .skip
theorem fb98 : fBody C.P 98 = some (15, [.tmp 6], c98) := by kernel_rfl
-- impl.within
@[go_sem] theorem fi102 : fInfo C.P 102 = some true := by kernel_rfl
@[go_sem] theorem io102 : C.io 102 = io0 := rfl
@[go_sem] theorem hh102 : C.hint 102 = hh0 := rfl
noncomputable def c102 : Code := (Try.f102.body).getD .skip
theorem fb102 : fBody C.P 102 = some (15, [.tmp 6], c102) := by kernel_rfl
-- impl.isLetter
@[go_sem] theorem fi103 : fInfo C.P 103 = some true := by kernel_rfl
@[go_sem] theorem io103 : C.io 103 = io0 := rfl
@[go_sem] theorem hh103 : C.hint 103 = hh0 := rfl
noncomputable def c103 : Code := (Try.f103.body).getD .skip
theorem fb103 : fBody C.P 103 = some (21, [.tmp 2], c103) := by kernel_rfl
-- impl.areAll[byte]
@[go_sem] theorem fi104 : fInfo C.P 104 = some true := by kernel_rfl
@[go_sem] theorem io104 : C.io 104 = io0 := rfl
@[go_sem] theorem hh104 : C.hint 104 = hh0 := rfl
noncomputable def c104 : Code := (Try.f104.body).getD .skip
theorem fb104 : fBody C.P 104 = some (9, [.tmp 4], c104) := by kernel_rfl
-- impl.NameOK$1
@[go_sem] theorem fi105 : fInfo C.P 105 = some true := by kernel_rfl
@[go_sem] theorem io105 : C.io 105 = io0 := rfl
@[go_sem] theorem hh105 : C.hint 105 = hh0 := rfl
noncomputable def c105 : Code := (Try.f105.body).getD .skip
theorem fb105 : fBody C.P 105 = some (9, [.tmp 2], c105) := by kernel_rfl
-- impl.isDigit
@[go_sem] theorem fi106 : fInfo C.P 106 = some true := by kernel_rfl
@[go_sem] theorem io106 : C.io 106 = io0 := rfl
@[go_sem] theorem hh106 : C.hint 106 = hh0 := rfl
noncomputable def c106 : Code := (Try.f106.body).getD .skip
theorem fb106 : fBody C.P 106 = some (9, [.tmp 2], c106) := by kernel_rfl
-- spec.l11Reader).signed
@[go_sem] theorem fi110 : fInfo C.P 110 = some true := by kernel_rfl
@[go_sem] theorem io110 : C.io 110 = io0 := rfl
@[go_sem] theorem hh110 : C.hint 110 = hh0 := rfl
noncomputable def c110 : Code := (Try.f110.body).getD .skip
theorem fb110 : fBody C.P 110 = some (15, [.tmp 2], c110) := by kernel_rfl
-- spec.l11Take
@[go_sem] theorem fi111 : fInfo C.P 111 = some true := by kernel_rfl
@[go_sem] theorem io111 : C.io 111 = io0 := rfl
@[go_sem] theorem hh111 : C.hint 111 = hh0 := rfl
@[go_sem] theorem kp111 : C.keep 111 = [0, 1, 7, 8, 9] := rfl
noncomputable def c111 : Code := (Try.f111.body).getD .skip
theorem fb111 : fBody C.P 111 = some (52, [.tmp 4, .tmp 5, .tmp 6], c111) := by kernel_rfl
-- spec.l03OK
@[go_sem] theorem fi112 : fInfo C.P 112 = some true := by kernel_rfl
@[go_sem] theorem io112 : C.io 112 = io0 := rfl
@[go_sem] theorem hh112 : C.hint 112 = hh0 := rfl
@[go_sem] theorem kp112 : C.keep 112 = [0, 3] := rfl
noncomputable def c112 : Code := (Try.f112.body).getD .skip
theorem fb112 : fBody C.P 112 = some (23, [.tmp 2], c112) := by kernel_rfl
-- spec.l04OK
@[go_sem] theorem fi113 : fInfo C.P 113 = some true := by kernel_rfl
@[go_sem] theorem io113 : C.io 113 = io0 := rfl
@[go_sem] theorem hh113 : C.hint 113 = hh0 := rfl
@[go_sem] theorem kp113 : C.keep 113 = [0, 3] := rfl
noncomputable def c113 : Code := (Try.f113.body).getD .skip
theorem fb113 : fBody C.P 113 = some (56, [.tmp 2], c113) := by kernel_rfl
-- impl.Commit]
@[go_sem] theorem fi114 : fInfo C.P 114 = some true := by kernel_rfl
@[go_sem] theorem io114 : C.io 114 = io0 := rfl
@[go_sem] theorem hh114 : C.hint 114 = hh0 := rfl
noncomputable def c114 : Code := (Try.f114.body).getD .skip
theorem fb114 : fBody C.P 114 = some (6, [.tmp 2], c114) := by kernel_rfl
-- impl.areCommits
@[go_sem] theorem fi115 : fInfo C.P 115 = some true := by kernel_rfl
@[go_sem] theorem io115 : C.io 115 = io0 := rfl
@[go_sem] theorem hh115 : C.hint 115 = hh0 := rfl
@[go_sem] theorem kp115 : C.keep 115 = [0, 5, 6, 7] := rfl
noncomputable def c115 : Code := (Try.f115.body).getD .skip
theorem fb115 : fBody C.P 115 = some (21, [.tmp 2], c115) := by kernel_rfl
-- impl.isRef
@[go_sem] theorem fi116 : fInfo C.P 116 = some true := by kernel_rfl
@[go_sem] theorem io116 : C.io 116 = io0 := rfl
@[go_sem] theorem hh116 : C.hint 116 = hh0 := rfl
noncomputable def c116 : Code := (Try.f116.body).getD .skip
theorem fb116 : fBody C.P 116 = some (30, [.tmp 2], c116) := by kernel_rfl
-- impl.place
@[go_sem] theorem fi117 : fInfo C.P 117 = some true := by kernel_rfl
@[go_sem] theorem io117 : C.io 117 = io0 := rfl
@[go_sem] theorem hh117 : C.hint 117 = hh0 := rfl
noncomputable def c117 : Code := (Try.f117.body).getD .skip
theorem fb117 : fBody C.P 117 = some (8, [.tmp 4], c117) := by kernel_rfl
-- impl.Ref]
@[go_sem] theorem fi118 : fInfo C.P 118 = some true := by kernel_rfl
@[go_sem] theorem io118 : C.io 118 = io0 := rfl
@[go_sem] theorem hh118 : C.hint 118 = hh0 := rfl
noncomputable def c118 : Code := (Try.f118.body).getD .skip
theorem fb118 : fBody C.P 118 = some (9, [.tmp 4], c118) := by kernel_rfl
-- impl.Ref]$1
@[go_sem] theorem fi119 : fInfo C.P 119 = some true := by kernel_rfl
@[go_sem] theorem io119 : C.io 119 = io0 := rfl
@[go_sem] theorem hh119 : C.hint 119 = hh0 := rfl
noncomputable def c119 : Code := (Try.f119.body).getD .skip
theorem fb119 : fBody C.P 119 = some (8, [.tmp 3], c119) := by kernel_rfl
-- laws.eqIntS
@[go_sem] theorem fi120 : fInfo C.P 120 = some true := by kernel_rfl
@[go_sem] theorem io120 : C.io 120 = io0 := rfl
@[go_sem] theorem hh120 : C.hint 120 = hh0 := rfl
@[go_sem] theorem kp120 : C.keep 120 = [0, 1, 5] := rfl
noncomputable def c120 : Code := (Try.f120.body).getD .skip
theorem fb120 : fBody C.P 120 = some (26, [.tmp 4], c120) := by kernel_rfl
-- laws.eqEntryS
@[go_sem] theorem fi121 : fInfo C.P 121 = some true := by kernel_rfl
@[go_sem] theorem io121 : C.io 121 = io0 := rfl
@[go_sem] theorem hh121 : C.hint 121 = hh0 := rfl
@[go_sem] theorem kp121 : C.keep 121 = [0, 1, 5] := rfl
noncomputable def c121 : Code := (Try.f121.body).getD .skip
theorem fb121 : fBody C.P 121 = some (27, [.tmp 4], c121) := by kernel_rfl
-- spec.l00Letter
@[go_sem] theorem fi131 : fInfo C.P 131 = some true := by kernel_rfl
@[go_sem] theorem io131 : C.io 131 = io0 := rfl
@[go_sem] theorem hh131 : C.hint 131 = hh0 := rfl
noncomputable def c131 : Code := (Try.f131.body).getD .skip
theorem fb131 : fBody C.P 131 = some (21, [.tmp 2], c131) := by kernel_rfl
-- spec.l00Digit
@[go_sem] theorem fi132 : fInfo C.P 132 = some true := by kernel_rfl
@[go_sem] theorem io132 : C.io 132 = io0 := rfl
@[go_sem] theorem hh132 : C.hint 132 = hh0 := rfl
noncomputable def c132 : Code := (Try.f132.body).getD .skip
theorem fb132 : fBody C.P 132 = some (9, [.tmp 2], c132) := by kernel_rfl
-- slices.ContainsFunc[[]byte,byte]
@[go_sem] theorem fi135 : fInfo C.P 135 = some true := by kernel_rfl
@[go_sem] theorem io135 : C.io 135 = io0 := rfl
@[go_sem] theorem hh135 : C.hint 135 = hh0 := rfl
noncomputable def c135 : Code := (Try.f135.body).getD .skip
theorem fb135 : fBody C.P 135 = some (9, [.tmp 4], c135) := by kernel_rfl
-- impl.areAll[byte]$1
@[go_sem] theorem fi136 : fInfo C.P 136 = some true := by kernel_rfl
@[go_sem] theorem io136 : C.io 136 = io0 := rfl
@[go_sem] theorem hh136 : C.hint 136 = hh0 := rfl
noncomputable def c136 : Code := (Try.f136.body).getD .skip
theorem fb136 : fBody C.P 136 = some (8, [.tmp 3], c136) := by kernel_rfl
-- spec.l03Commit
@[go_sem] theorem fi137 : fInfo C.P 137 = some true := by kernel_rfl
@[go_sem] theorem io137 : C.io 137 = io0 := rfl
@[go_sem] theorem hh137 : C.hint 137 = hh0 := rfl
@[go_sem] theorem kp137 : C.keep 137 = [0, 3, 5, 6] := rfl
noncomputable def c137 : Code := (Try.f137.body).getD .skip
theorem fb137 : fBody C.P 137 = some (56, [.tmp 4], c137) := by kernel_rfl
-- spec.l04At
@[go_sem] theorem fi138 : fInfo C.P 138 = some true := by kernel_rfl
@[go_sem] theorem io138 : C.io 138 = io0 := rfl
@[go_sem] theorem hh138 : C.hint 138 = hh0 := rfl
@[go_sem] theorem kp138 : C.keep 138 = [0, 1, 5] := rfl
noncomputable def c138 : Code := (Try.f138.body).getD .skip
theorem fb138 : fBody C.P 138 = some (20, [.tmp 4], c138) := by kernel_rfl
-- impl.Commit).isAt
@[go_sem] theorem fi139 : fInfo C.P 139 = some true := by kernel_rfl
@[go_sem] theorem io139 : C.io 139 = io0 := rfl
@[go_sem] theorem hh139 : C.hint 139 = hh0 := rfl
noncomputable def c139 : Code := (Try.f139.body).getD .skip
theorem fb139 : fBody C.P 139 = some (43, [.tmp 4], c139) := by kernel_rfl
-- impl.isHead
@[go_sem] theorem fi140 : fInfo C.P 140 = some true := by kernel_rfl
@[go_sem] theorem io140 : C.io 140 = io0 := rfl
@[go_sem] theorem hh140 : C.hint 140 = hh0 := rfl
noncomputable def c140 : Code := (Try.f140.body).getD .skip
theorem fb140 : fBody C.P 140 = some (5, [.tmp 2], c140) := by kernel_rfl
-- impl.Ref]
@[go_sem] theorem fi141 : fInfo C.P 141 = some true := by kernel_rfl
@[go_sem] theorem io141 : C.io 141 = io0 := rfl
@[go_sem] theorem hh141 : C.hint 141 = hh0 := rfl
@[go_sem] theorem kp141 : C.keep 141 = [0, 1, 7, 8] := rfl
noncomputable def c141 : Code := (Try.f141.body).getD .skip
theorem fb141 : fBody C.P 141 = some (19, [.tmp 4], c141) := by kernel_rfl
-- impl.place$1
@[go_sem] theorem fi142 : fInfo C.P 142 = some true := by kernel_rfl
@[go_sem] theorem io142 : C.io 142 = io0 := rfl
@[go_sem] theorem hh142 : C.hint 142 = hh0 := rfl
noncomputable def c142 : Code := (Try.f142.body).getD .skip
theorem fb142 : fBody C.P 142 = some (8, [.tmp 3], c142) := by kernel_rfl
-- laws.eqEntry
@[go_sem] theorem fi143 : fInfo C.P 143 = some true := by kernel_rfl
@[go_sem] theorem io143 : C.io 143 = io0 := rfl
@[go_sem] theorem hh143 : C.hint 143 = hh0 := rfl
noncomputable def c143 : Code := (Try.f143.body).getD .skip
theorem fb143 : fBody C.P 143 = some (15, [.tmp 4], c143) := by kernel_rfl
-- slices.IndexFunc[[]byte,byte]
@[go_sem] theorem fi157 : fInfo C.P 157 = some true := by kernel_rfl
@[go_sem] theorem io157 : C.io 157 = io0 := rfl
@[go_sem] theorem hh157 : C.hint 157 = hh0 := rfl
@[go_sem] theorem kp157 : C.keep 157 = [0, 1, 7, 8] := rfl
noncomputable def c157 : Code := (Try.f157.body).getD .skip
theorem fb157 : fBody C.P 157 = some (19, [.tmp 4], c157) := by kernel_rfl
-- impl.areAll[int]
@[go_sem] theorem fi158 : fInfo C.P 158 = some true := by kernel_rfl
@[go_sem] theorem io158 : C.io 158 = io0 := rfl
@[go_sem] theorem hh158 : C.hint 158 = hh0 := rfl
noncomputable def c158 : Code := (Try.f158.body).getD .skip
theorem fb158 : fBody C.P 158 = some (9, [.tmp 4], c158) := by kernel_rfl
-- impl.Commit).isAt$1
@[go_sem] theorem fi159 : fInfo C.P 159 = some true := by kernel_rfl
@[go_sem] theorem io159 : C.io 159 = io0 := rfl
@[go_sem] theorem hh159 : C.hint 159 = hh0 := rfl
noncomputable def c159 : Code := (Try.f159.body).getD .skip
theorem fb159 : fBody C.P 159 = some (8, [.tmp 3], c159) := by kernel_rfl
-- slices.ContainsFunc[[]int,int]
@[go_sem] theorem fi166 : fInfo C.P 166 = some true := by kernel_rfl
@[go_sem] theorem io166 : C.io 166 = io0 := rfl
@[go_sem] theorem hh166 : C.hint 166 = hh0 := rfl
noncomputable def c166 : Code := (Try.f166.body).getD .skip
theorem fb166 : fBody C.P 166 = some (9, [.tmp 4], c166) := by kernel_rfl
-- impl.areAll[int]$1
@[go_sem] theorem fi167 : fInfo C.P 167 = some true := by kernel_rfl
@[go_sem] theorem io167 : C.io 167 = io0 := rfl
@[go_sem] theorem hh167 : C.hint 167 = hh0 := rfl
noncomputable def c167 : Code := (Try.f167.body).getD .skip
theorem fb167 : fBody C.P 167 = some (8, [.tmp 3], c167) := by kernel_rfl
-- slices.IndexFunc[[]int,int]
@[go_sem] theorem fi169 : fInfo C.P 169 = some true := by kernel_rfl
@[go_sem] theorem io169 : C.io 169 = io0 := rfl
@[go_sem] theorem hh169 : C.hint 169 = hh0 := rfl
@[go_sem] theorem kp169 : C.keep 169 = [0, 1, 7, 8] := rfl
noncomputable def c169 : Code := (Try.f169.body).getD .skip
theorem fb169 : fBody C.P 169 = some (19, [.tmp 4], c169) := by kernel_rfl
end Go.Pi
