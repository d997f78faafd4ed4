/-
  Edits: what each function of the code does (bytes, places).
-/
import Derived.Test.YtbnjlnbmdkbpkaaBytes
import Derived.Test.YtbnjlnbmdkbpkaaEditPlace
