/- All the codes. -/
import Derived.Test.YtkdnijiipegabaaDoorCa
