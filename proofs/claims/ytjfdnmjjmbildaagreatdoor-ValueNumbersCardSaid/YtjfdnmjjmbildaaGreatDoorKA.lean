/- Seat valuec: the package variables that are read, as the rows lay them. -/
import Derived.Test.YtjfdnmjjmbildaaGreatDoorMH
import GoSem.PinnedTables
namespace Go.Ax
set_option linter.unusedVariables false
set_option maxRecDepth 1000000

def pow64L : List Value := [1, 10, 100, 1000, 10000, 100000, 1000000, 10000000, 100000000, 1000000000, 10000000000, 100000000000, 1000000000000, 10000000000000, 100000000000000, 1000000000000000, 10000000000000000, 100000000000000000, 1000000000000000000, 10000000000000000000].map fun n => Value.int .u64 n
def tabL : List Value := [0, 1, 56, 2, 57, 49, 28, 3, 61, 58, 42, 50, 38, 29, 17, 4, 62, 47, 59, 36, 45, 43, 51, 22, 53, 39, 33, 30, 24, 18, 12, 5, 63, 55, 48, 27, 60, 41, 37, 16, 46, 35, 44, 21, 52, 32, 23, 11, 54, 26, 40, 15, 34, 20, 31, 10, 25, 14, 19, 9, 13, 8, 7, 6].map fun n => Value.int .u8 n
def fpowL : List Value := [4607182418800017408, 4621819117588971520, 4636737291354636288, 4652007308841189376, 4666723172467343360, 4681608360884174848, 4696837146684686336, 4711630319722168320, 4726483295884279808, 4741671816366391296, 4756540486875873280, 4771362005757984768, 4786511204640096256, 4801453603149578240, 4816244402031689728, 4831355200913801216, 4846369599423283200, 4861130398305394688, 4876203697187506176, 4891288408196988160, 4906019910204099648, 4921056587992461136, 4936209963552724370].map fun n => Value.float .f64 n
def infoL : List Value := [.int .u64 52, .int .u64 11, .int .i64 (-1023)]
def pow10At (o : Nat) : Option Value := (Go.Pinned.pow10Rows[o / 2]?).map fun x => if o % 2 = 0 then Value.int .u64 x.1 else Value.int .u64 x.2

/-- What is only read: the variables, and (from 2^32 on) what one of them leads to; the fault's value is some value. -/
def roV (b o : Nat) : Option Value :=
  if b = 2 then pow64L[o]?
  else if b = 3 then (if o = 0 then some cellV else none)
  else if b = 5 then (if o = 0 then some (.bool true) else none)
  else if b = 7 then infoL[o]?
  else if b = 9 then tabL[o]?
  else if b = 12 then (if o = 0 then some (.slice (some ⟨4294967296, 0, none⟩) 23 23) else none)
  else if b = 13 then pow10At o
  else if b = 4294967296 then fpowL[o]?
  else none
end Go.Ax
